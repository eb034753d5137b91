/-
  Conditions of functions, printed by a program of ours; the kernel checks each against vcFunc.
-/
import Derived.Test.YtmnkafplmbngnaaRows
import Derived.Test.YtmnkafplmbngnaaVc5
namespace Go.Proofs.Ytmnkafplmbngnaa
set_option maxRecDepth 100000
set_option linter.unusedVariables false

abbrev fn_alloc_Alloc_Count : Nat := 13
abbrev fn_alloc_Alloc_Free : Nat := 12
abbrev fn_alloc_Alloc_List : Nat := 22
abbrev fn_alloc_Alloc_Mark : Nat := 18
abbrev fn_alloc_Alloc_Take : Nat := 10
abbrev fn_alloc_Alloc_Wear : Nat := 14
abbrev fn_alloc_Alloc_at : Nat := 24
abbrev fn_alloc_New : Nat := 9
abbrev fn_scarpalike_Ints : Nat := 21
abbrev fn_scarpalike_Round : Nat := 11
abbrev fn_scarplaw10_AllocEven : Nat := 4
abbrev fn_scarplaw10_AllocMarks : Nat := 6
abbrev fn_scarplaw10_AllocNothing : Nat := 7
abbrev fn_scarplaw10_AllocOnce : Nat := 3
abbrev fn_scarplaw10_AllocPlays : Nat := 5
abbrev fn_scarplaw10_awake : Nat := 8
abbrev fn_scarpref9_Alloc_Count : Nat := 20
abbrev fn_scarpref9_Alloc_Free : Nat := 17
abbrev fn_scarpref9_Alloc_List : Nat := 23
abbrev fn_scarpref9_Alloc_Mark : Nat := 19
abbrev fn_scarpref9_Alloc_Take : Nat := 16
abbrev fn_scarpref9_NewAlloc : Nat := 15

def vcscarplaw10_AllocEven (zones : Int) (turns : Int) (h : Hp) (R : Value → Hp → Prop) : Prop :=
  IfB (decide (zones < (1 : Int))) (HCalls Try.prog fn_scarplaw10_awake #[] h fun r vh =>
    ∃ c : Bool, r = .bool c ∧
    R (.bool c) vh)
  (IfB (decide (zones > (64 : Int))) (HCalls Try.prog fn_scarplaw10_awake #[] h fun r1 vh1 =>
      ∃ c1 : Bool, r1 = .bool c1 ∧
      R (.bool c1) vh1)
    (IfB (decide (turns < (0 : Int))) (HCalls Try.prog fn_scarplaw10_awake #[] h fun r2 vh2 =>
        ∃ c2 : Bool, r2 = .bool c2 ∧
        R (.bool c2) vh2)
      (IfB (decide (turns > (300 : Int))) (HCalls Try.prog fn_scarplaw10_awake #[] h fun r3 vh3 =>
          ∃ c3 : Bool, r3 = .bool c3 ∧
          R (.bool c3) vh3)
        (HCalls Try.prog fn_alloc_New #[.int .i64 zones, .int .i64 (0 : Int)] h fun r4 vh4 =>
          ∃ c4 : Option Addr, ∃ c5 : Int, r4 = .tuple #[.pointer c4, .int .i64 c5] ∧
          IfB (c5 != (0 : Int)) (R (.bool false) vh4)
          (IfB (isNone? c4) (R (.bool false) vh4)
            (∃ (vI : Int → Nat → Hp → Prop) (n : Nat), vI (0 : Int) n vh4 ∧
              ∀ _junk : Nat → Value, ∀ i : Int, ∀ (n1 : Nat) (vh5 : Hp), vI i n1 vh5 →
              IfB (decide (i < turns)) (HCalls Try.prog fn_alloc_Alloc_Take #[.pointer c4, .bool false] vh5 fun r5 vh6 =>
                ∃ c6 : Int, ∃ c7 : Int, r5 = .tuple #[.int .i64 c6, .int .i64 c7] ∧
                IfB (c7 != (0 : Int)) (R (.bool false) vh6)
                (zones ≠ 0 ∧
                  IfB (c6 != (iRem i zones)) (R (.bool false) vh6)
                  (HCalls Try.prog fn_alloc_Alloc_Free #[.pointer c4, .int .i64 c6] vh6 fun r6 vh7 =>
                    ∃ c8 : Int, r6 = .int .i64 c8 ∧
                    IfB (c8 != (0 : Int)) (R (.bool false) vh7)
                    (∃ n2, n2 < n1 ∧ vI (iAdd .i64 i (1 : Int)) n2 vh7))))
              (∃ (vI1 : Int → Nat → Hp → Prop) (n3 : Nat), vI1 (0 : Int) n3 vh5 ∧
                ∀ _junk : Nat → Value, ∀ i1 : Int, ∀ (n4 : Nat) (vh8 : Hp), vI1 i1 n4 vh8 →
                IfB (decide (i1 < zones)) (HCalls Try.prog fn_alloc_Alloc_Wear #[.pointer c4, .int .i64 i1] vh8 fun r7 vh9 =>
                  ∃ c9 : Int, r7 = .int .i64 c9 ∧
                  zones ≠ 0 ∧
                  IfB (c9 != (iQuo .i64 turns zones)) (zones ≠ 0 ∧
                    IfB (c9 != (iAdd .i64 (iQuo .i64 turns zones) (1 : Int))) (R (.bool false) vh9)
                    (∃ n5, n5 < n4 ∧ vI1 (iAdd .i64 i1 (1 : Int)) n5 vh9))
                  (∃ n5, n5 < n4 ∧ vI1 (iAdd .i64 i1 (1 : Int)) n5 vh9))
                (HCalls Try.prog fn_scarplaw10_awake #[] vh8 fun r8 vh10 =>
                  ∃ c10 : Bool, r8 = .bool c10 ∧
                  R (.bool c10) vh10))))))))
theorem scarplaw10_AllocEven_vc {zones : Int} {turns : Int} {h : Hp} {R : Value → Hp → Prop} (H : vcscarplaw10_AllocEven zones turns h R) : HCalls Try.prog fn_scarplaw10_AllocEven #[.int .i64 zones, .int .i64 turns] h R :=
  vc_fn (annOf [(0, [(7, .int .i64)]), (1, [(10, .int .i64)])] []) Try.func4 [.int .i64 zones, .int .i64 turns] (by kernel_rfl) (V := vcscarplaw10_AllocEven zones turns h R) (by kernel_rfl) H

def vcscarplaw10_AllocMarks (zones : Int) (marks : Sl) (h : Hp) (R : Value → Hp → Prop) : Prop :=
  IfB (decide (zones < (1 : Int))) (HCalls Try.prog fn_scarplaw10_awake #[] h fun r vh =>
    ∃ c : Bool, r = .bool c ∧
    R (.bool c) vh)
  (IfB (decide (zones > (64 : Int))) (HCalls Try.prog fn_scarplaw10_awake #[] h fun r1 vh1 =>
      ∃ c1 : Bool, r1 = .bool c1 ∧
      R (.bool c1) vh1)
    (IfB (decide ((marks.len : Int) > (100 : Int))) (HCalls Try.prog fn_scarplaw10_awake #[] h fun r2 vh2 =>
        ∃ c2 : Bool, r2 = .bool c2 ∧
        R (.bool c2) vh2)
      (HCalls Try.prog fn_alloc_New #[.int .i64 zones, .int .i64 (0 : Int)] h fun r3 vh3 =>
        ∃ c3 : Option Addr, ∃ c4 : Int, r3 = .tuple #[.pointer c3, .int .i64 c4] ∧
        IfB (c4 != (0 : Int)) (R (.bool false) vh3)
        (IfB (isNone? c3) (R (.bool false) vh3)
          (MkC 4 1 #[.bool false] zones zones vh3 fun s vh4 =>
            ∃ (vI : Int → Int → Nat → Hp → Prop) (n : Nat), vI zones (0 : Int) n vh4 ∧
            ∀ _junk : Nat → Value, ∀ n3 : Int, ∀ i : Int, ∀ (n1 : Nat) (vh5 : Hp), vI n3 i n1 vh5 →
            IfB (decide (i < (marks.len : Int))) (∃ a : Addr, marks.base = some a ∧ 0 ≤ i ∧ i < (marks.len : Int) ∧
              ∃ c5 : Int, hcell vh5 (a.add ((i).toNat * 1)) = some (.int .i64 c5) ∧
              HCalls Try.prog fn_alloc_Alloc_Mark #[.pointer c3, .int .i64 c5] vh5 fun r4 vh6 =>
              ∃ c6 : Int, r4 = .int .i64 c6 ∧
              IfB (decide (c5 < (0 : Int))) (IfB (c6 != (1 : Int)) (R (.bool false) vh6)
                (∃ n2, n2 < n1 ∧ vI n3 (iAdd .i64 i (1 : Int)) n2 vh6))
              (IfB (decide (c5 ≥ zones)) (IfB (c6 != (1 : Int)) (R (.bool false) vh6)
                  (∃ n2, n2 < n1 ∧ vI n3 (iAdd .i64 i (1 : Int)) n2 vh6))
                (∃ a1 : Addr, s.base = some a1 ∧ 0 ≤ c5 ∧ c5 < (s.len : Int) ∧
                  ∃ c7 : Bool, hcell vh6 (a1.add ((c5).toNat * 1)) = some (.bool c7) ∧
                  IfB c7 (IfB (c6 != (14 : Int)) (R (.bool false) vh6)
                    (∃ n2, n2 < n1 ∧ vI n3 (iAdd .i64 i (1 : Int)) n2 vh6))
                  (IfB (c6 != (0 : Int)) (R (.bool false) vh6)
                    (∃ a2 : Addr, s.base = some a2 ∧ 0 ≤ c5 ∧ c5 < (s.len : Int) ∧
                      StOk vh6 (a2.add ((c5).toNat * 1)) ∧
                      let vh7 := hset vh6 (a2.add ((c5).toNat * 1)) (.bool true);
                      ∃ n2, n2 < n1 ∧ vI (iSub .i64 n3 (1 : Int)) (iAdd .i64 i (1 : Int)) n2 vh7)))))
            (∃ (vI1 : Int → Nat → Hp → Prop) (n4 : Nat), vI1 (0 : Int) n4 vh5 ∧
              ∀ _junk : Nat → Value, ∀ i1 : Int, ∀ (n5 : Nat) (vh8 : Hp), vI1 i1 n5 vh8 →
              IfB (decide (i1 < n3)) (HCalls Try.prog fn_alloc_Alloc_Take #[.pointer c3, .bool false] vh8 fun r5 vh9 =>
                ∃ c8 : Int, ∃ c9 : Int, r5 = .tuple #[.int .i64 c8, .int .i64 c9] ∧
                IfB (c9 != (0 : Int)) (R (.bool false) vh9)
                (IfB (decide (c8 < (0 : Int))) (R (.bool false) vh9)
                  (IfB (decide (c8 ≥ zones)) (R (.bool false) vh9)
                    (∃ a3 : Addr, s.base = some a3 ∧ 0 ≤ c8 ∧ c8 < (s.len : Int) ∧
                      ∃ c10 : Bool, hcell vh9 (a3.add ((c8).toNat * 1)) = some (.bool c10) ∧
                      IfB c10 (R (.bool false) vh9)
                      (∃ a4 : Addr, s.base = some a4 ∧ 0 ≤ c8 ∧ c8 < (s.len : Int) ∧
                        StOk vh9 (a4.add ((c8).toNat * 1)) ∧
                        let vh10 := hset vh9 (a4.add ((c8).toNat * 1)) (.bool true);
                        ∃ n6, n6 < n5 ∧ vI1 (iAdd .i64 i1 (1 : Int)) n6 vh10)))))
              (HCalls Try.prog fn_alloc_Alloc_Take #[.pointer c3, .bool true] vh8 fun r6 vh11 =>
                ∃ c11 : Int, ∃ c12 : Int, r6 = .tuple #[.int .i64 c11, .int .i64 c12] ∧
                IfB (c12 != (9 : Int)) (R (.bool false) vh11)
                (HCalls Try.prog fn_alloc_Alloc_Count #[.pointer c3] vh11 fun r7 vh12 =>
                  ∃ c13 : Int, r7 = .int .i64 c13 ∧
                  IfB (c13 != (0 : Int)) (R (.bool false) vh12)
                  (HCalls Try.prog fn_alloc_Alloc_List #[.pointer c3] vh12 fun r8 vh13 =>
                    ∃ c14 : Sl, r8 = .slice c14.base c14.len c14.cap ∧
                    IfB ((c14.len : Int) != (0 : Int)) (R (.bool false) vh13)
                    (∃ (vI2 : Int → Nat → Hp → Prop) (n7 : Nat), vI2 (0 : Int) n7 vh13 ∧
                      ∀ _junk : Nat → Value, ∀ i2 : Int, ∀ (n8 : Nat) (vh14 : Hp), vI2 i2 n8 vh14 →
                      IfB (decide (i2 < zones)) (HCalls Try.prog fn_alloc_Alloc_Free #[.pointer c3, .int .i64 i2] vh14 fun r9 vh15 =>
                        ∃ c15 : Int, r9 = .int .i64 c15 ∧
                        IfB (c15 != (0 : Int)) (R (.bool false) vh15)
                        (HCalls Try.prog fn_alloc_Alloc_Wear #[.pointer c3, .int .i64 i2] vh15 fun r10 vh16 =>
                          ∃ c16 : Int, r10 = .int .i64 c16 ∧
                          IfB (c16 != (1 : Int)) (R (.bool false) vh16)
                          (∃ n9, n9 < n8 ∧ vI2 (iAdd .i64 i2 (1 : Int)) n9 vh16)))
                      (HCalls Try.prog fn_alloc_Alloc_Count #[.pointer c3] vh14 fun r11 vh17 =>
                        ∃ c17 : Int, r11 = .int .i64 c17 ∧
                        IfB (c17 == zones) (HCalls Try.prog fn_scarplaw10_awake #[] vh17 fun r12 vh18 =>
                          ∃ c18 : Bool, r12 = .bool c18 ∧
                          R (.bool c18) vh18)
                        (R (.bool false) vh17))))))))))))
theorem scarplaw10_AllocMarks_vc {zones : Int} {marks : Sl} {h : Hp} {R : Value → Hp → Prop} (H : vcscarplaw10_AllocMarks zones marks h R) : HCalls Try.prog fn_scarplaw10_AllocMarks #[.int .i64 zones, .slice marks.base marks.len marks.cap] h R :=
  vc_fn (annOf [(0, [(8, .int .i64), (9, .int .i64)]), (1, [(12, .int .i64)]), (2, [(17, .int .i64)])] []) Try.func6 [.int .i64 zones, .slice marks.base marks.len marks.cap] (by kernel_rfl) (V := vcscarplaw10_AllocMarks zones marks h R) (by kernel_rfl) H

def vcscarplaw10_AllocNothing (zones : Int) (spare : Int) (k : Int) (h : Hp) (R : Value → Hp → Prop) : Prop :=
  HCalls Try.prog fn_alloc_Alloc_Take #[.pointer none, .bool true] h fun r vh =>
  ∃ c : Int, ∃ c1 : Int, r = .tuple #[.int .i64 c, .int .i64 c1] ∧
  HCalls Try.prog fn_alloc_New #[.int .i64 zones, .int .i64 spare] vh fun r1 vh1 =>
  ∃ c2 : Option Addr, ∃ c3 : Int, r1 = .tuple #[.pointer c2, .int .i64 c3] ∧
  IfB (decide (zones ≥ (1 : Int))) (IfB (decide (zones ≤ (64 : Int))) (IfB (decide (spare ≥ (0 : Int))) (IfB (c1 == (9 : Int)) (HCalls Try.prog fn_alloc_Alloc_Free #[.pointer none, .int .i64 k] vh1 fun r2 vh2 =>
          ∃ c4 : Int, r2 = .int .i64 c4 ∧
          IfB (c4 == (1 : Int)) (HCalls Try.prog fn_alloc_Alloc_Mark #[.pointer none, .int .i64 k] vh2 fun r3 vh3 =>
            ∃ c5 : Int, r3 = .int .i64 c5 ∧
            IfB (c5 == (1 : Int)) (HCalls Try.prog fn_alloc_Alloc_Count #[.pointer none] vh3 fun r4 vh4 =>
              ∃ c6 : Int, r4 = .int .i64 c6 ∧
              IfB (c6 == (0 : Int)) (HCalls Try.prog fn_alloc_Alloc_Wear #[.pointer none, .int .i64 k] vh4 fun r5 vh5 =>
                ∃ c7 : Int, r5 = .int .i64 c7 ∧
                IfB (c7 == (0 : Int)) (HCalls Try.prog fn_alloc_Alloc_List #[.pointer none] vh5 fun r6 vh6 =>
                  ∃ c8 : Sl, r6 = .slice c8.base c8.len c8.cap ∧
                  IfB ((c8.len : Int) == (0 : Int)) (IfB ((c3 == (0 : Int)) == (decide (spare ≤ zones))) (IfB ((!isNone? c2) == (decide (spare ≤ zones))) (IfB (decide (spare ≤ zones)) (HCalls Try.prog fn_scarplaw10_awake #[] vh6 fun r7 vh7 =>
                          ∃ c9 : Bool, r7 = .bool c9 ∧
                          R (.bool c9) vh7)
                        (IfB (c3 == (1 : Int)) (HCalls Try.prog fn_scarplaw10_awake #[] vh6 fun r8 vh8 =>
                            ∃ c10 : Bool, r8 = .bool c10 ∧
                            R (.bool c10) vh8)
                          (R (.bool false) vh6)))
                      (R (.bool false) vh6))
                    (R (.bool false) vh6))
                  (R (.bool false) vh6))
                (R (.bool false) vh5))
              (R (.bool false) vh4))
            (R (.bool false) vh3))
          (R (.bool false) vh2))
        (R (.bool false) vh1))
      (IfB (c1 == (9 : Int)) (HCalls Try.prog fn_alloc_Alloc_Free #[.pointer none, .int .i64 k] vh1 fun r9 vh9 =>
          ∃ c11 : Int, r9 = .int .i64 c11 ∧
          IfB (c11 == (1 : Int)) (HCalls Try.prog fn_alloc_Alloc_Mark #[.pointer none, .int .i64 k] vh9 fun r10 vh10 =>
            ∃ c12 : Int, r10 = .int .i64 c12 ∧
            IfB (c12 == (1 : Int)) (HCalls Try.prog fn_alloc_Alloc_Count #[.pointer none] vh10 fun r11 vh11 =>
              ∃ c13 : Int, r11 = .int .i64 c13 ∧
              IfB (c13 == (0 : Int)) (HCalls Try.prog fn_alloc_Alloc_Wear #[.pointer none, .int .i64 k] vh11 fun r12 vh12 =>
                ∃ c14 : Int, r12 = .int .i64 c14 ∧
                IfB (c14 == (0 : Int)) (HCalls Try.prog fn_alloc_Alloc_List #[.pointer none] vh12 fun r13 vh13 =>
                  ∃ c15 : Sl, r13 = .slice c15.base c15.len c15.cap ∧
                  IfB ((c15.len : Int) == (0 : Int)) (IfB ((c3 == (0 : Int)) == false) (IfB ((!isNone? c2) == false) (IfB (c3 == (1 : Int)) (HCalls Try.prog fn_scarplaw10_awake #[] vh13 fun r14 vh14 =>
                          ∃ c16 : Bool, r14 = .bool c16 ∧
                          R (.bool c16) vh14)
                        (R (.bool false) vh13))
                      (R (.bool false) vh13))
                    (R (.bool false) vh13))
                  (R (.bool false) vh13))
                (R (.bool false) vh12))
              (R (.bool false) vh11))
            (R (.bool false) vh10))
          (R (.bool false) vh9))
        (R (.bool false) vh1)))
    (IfB (c1 == (9 : Int)) (HCalls Try.prog fn_alloc_Alloc_Free #[.pointer none, .int .i64 k] vh1 fun r15 vh15 =>
        ∃ c17 : Int, r15 = .int .i64 c17 ∧
        IfB (c17 == (1 : Int)) (HCalls Try.prog fn_alloc_Alloc_Mark #[.pointer none, .int .i64 k] vh15 fun r16 vh16 =>
          ∃ c18 : Int, r16 = .int .i64 c18 ∧
          IfB (c18 == (1 : Int)) (HCalls Try.prog fn_alloc_Alloc_Count #[.pointer none] vh16 fun r17 vh17 =>
            ∃ c19 : Int, r17 = .int .i64 c19 ∧
            IfB (c19 == (0 : Int)) (HCalls Try.prog fn_alloc_Alloc_Wear #[.pointer none, .int .i64 k] vh17 fun r18 vh18 =>
              ∃ c20 : Int, r18 = .int .i64 c20 ∧
              IfB (c20 == (0 : Int)) (HCalls Try.prog fn_alloc_Alloc_List #[.pointer none] vh18 fun r19 vh19 =>
                ∃ c21 : Sl, r19 = .slice c21.base c21.len c21.cap ∧
                IfB ((c21.len : Int) == (0 : Int)) (IfB ((c3 == (0 : Int)) == false) (IfB ((!isNone? c2) == false) (IfB (c3 == (1 : Int)) (HCalls Try.prog fn_scarplaw10_awake #[] vh19 fun r20 vh20 =>
                        ∃ c22 : Bool, r20 = .bool c22 ∧
                        R (.bool c22) vh20)
                      (R (.bool false) vh19))
                    (R (.bool false) vh19))
                  (R (.bool false) vh19))
                (R (.bool false) vh19))
              (R (.bool false) vh18))
            (R (.bool false) vh17))
          (R (.bool false) vh16))
        (R (.bool false) vh15))
      (R (.bool false) vh1)))
  (IfB (c1 == (9 : Int)) (HCalls Try.prog fn_alloc_Alloc_Free #[.pointer none, .int .i64 k] vh1 fun r21 vh21 =>
      ∃ c23 : Int, r21 = .int .i64 c23 ∧
      IfB (c23 == (1 : Int)) (HCalls Try.prog fn_alloc_Alloc_Mark #[.pointer none, .int .i64 k] vh21 fun r22 vh22 =>
        ∃ c24 : Int, r22 = .int .i64 c24 ∧
        IfB (c24 == (1 : Int)) (HCalls Try.prog fn_alloc_Alloc_Count #[.pointer none] vh22 fun r23 vh23 =>
          ∃ c25 : Int, r23 = .int .i64 c25 ∧
          IfB (c25 == (0 : Int)) (HCalls Try.prog fn_alloc_Alloc_Wear #[.pointer none, .int .i64 k] vh23 fun r24 vh24 =>
            ∃ c26 : Int, r24 = .int .i64 c26 ∧
            IfB (c26 == (0 : Int)) (HCalls Try.prog fn_alloc_Alloc_List #[.pointer none] vh24 fun r25 vh25 =>
              ∃ c27 : Sl, r25 = .slice c27.base c27.len c27.cap ∧
              IfB ((c27.len : Int) == (0 : Int)) (IfB ((c3 == (0 : Int)) == false) (IfB ((!isNone? c2) == false) (IfB (c3 == (1 : Int)) (HCalls Try.prog fn_scarplaw10_awake #[] vh25 fun r26 vh26 =>
                      ∃ c28 : Bool, r26 = .bool c28 ∧
                      R (.bool c28) vh26)
                    (R (.bool false) vh25))
                  (R (.bool false) vh25))
                (R (.bool false) vh25))
              (R (.bool false) vh25))
            (R (.bool false) vh24))
          (R (.bool false) vh23))
        (R (.bool false) vh22))
      (R (.bool false) vh21))
    (R (.bool false) vh1))
theorem scarplaw10_AllocNothing_vc {zones : Int} {spare : Int} {k : Int} {h : Hp} {R : Value → Hp → Prop} (H : vcscarplaw10_AllocNothing zones spare k h R) : HCalls Try.prog fn_scarplaw10_AllocNothing #[.int .i64 zones, .int .i64 spare, .int .i64 k] h R :=
  vc_fn (annOf [] []) Try.func7 [.int .i64 zones, .int .i64 spare, .int .i64 k] (by kernel_rfl) (V := vcscarplaw10_AllocNothing zones spare k h R) (by kernel_rfl) H

def vcscarplaw10_awake (h : Hp) (R : Value → Hp → Prop) : Prop :=
  HCalls Try.prog fn_alloc_New #[.int .i64 (2 : Int), .int .i64 (1 : Int)] h fun r vh =>
  ∃ c : Option Addr, ∃ c1 : Int, r = .tuple #[.pointer c, .int .i64 c1] ∧
  IfB (c1 != (0 : Int)) (R (.bool false) vh)
  (IfB (isNone? c) (R (.bool false) vh)
    (HCalls Try.prog fn_alloc_Alloc_Take #[.pointer c, .bool false] vh fun r1 vh1 =>
      ∃ c2 : Int, ∃ c3 : Int, r1 = .tuple #[.int .i64 c2, .int .i64 c3] ∧
      HCalls Try.prog fn_alloc_Alloc_Take #[.pointer c, .bool false] vh1 fun r2 vh2 =>
      ∃ c4 : Int, ∃ c5 : Int, r2 = .tuple #[.int .i64 c4, .int .i64 c5] ∧
      HCalls Try.prog fn_alloc_Alloc_Take #[.pointer c, .bool true] vh2 fun r3 vh3 =>
      ∃ c6 : Int, ∃ c7 : Int, r3 = .tuple #[.int .i64 c6, .int .i64 c7] ∧
      IfB (c3 == (0 : Int)) (IfB (c2 == (0 : Int)) (IfB (c5 == (9 : Int)) (IfB (c7 == (0 : Int)) (R (.bool (c6 == (1 : Int))) vh3)
            (R (.bool false) vh3))
          (R (.bool false) vh3))
        (R (.bool false) vh3))
      (R (.bool false) vh3)))
theorem scarplaw10_awake_vc {h : Hp} {R : Value → Hp → Prop} (H : vcscarplaw10_awake h R) : HCalls Try.prog fn_scarplaw10_awake #[] h R :=
  vc_fn (annOf [] []) Try.func8 [] (by kernel_rfl) (V := vcscarplaw10_awake h R) (by kernel_rfl) H

def vcalloc_New (zones : Int) (spare : Int) (h : Hp) (R : Value → Hp → Prop) : Prop :=
  IfB (decide (zones < (1 : Int))) (R (.tuple #[.pointer none, .int .i64 (1 : Int)]) h)
  (IfB (decide (zones > (64 : Int))) (R (.tuple #[.pointer none, .int .i64 (1 : Int)]) h)
    (IfB (decide (spare < (0 : Int))) (R (.tuple #[.pointer none, .int .i64 (1 : Int)]) h)
      (IfB (decide (spare > zones)) (R (.tuple #[.pointer none, .int .i64 (1 : Int)]) h)
        (MkC 55 16 #[.bool false, .int .i64 (0 : Int)] zones zones h fun s vh =>
          let vh1 := alc vh [.slice s.base s.len s.cap, .int .i64 spare] 53;
          R (.tuple #[.pointer (some (nw vh)), .int .i64 (0 : Int)]) vh1))))
theorem alloc_New_vc {zones : Int} {spare : Int} {h : Hp} {R : Value → Hp → Prop} (H : vcalloc_New zones spare h R) : HCalls Try.prog fn_alloc_New #[.int .i64 zones, .int .i64 spare] h R :=
  vc_fn (annOf [] []) Try.func9 [.int .i64 zones, .int .i64 spare] (by kernel_rfl) (V := vcalloc_New zones spare h R) (by kernel_rfl) H

def vcalloc_Alloc_Take (a : Option Addr) (reserve : Bool) (h : Hp) (R : Value → Hp → Prop) : Prop :=
  HCalls Try.prog fn_alloc_Alloc_Count #[.pointer a] h fun r vh =>
  ∃ c : Int, r = .int .i64 c ∧
  Ext h vh ∧
  IfB (c == (0 : Int)) (R (.tuple #[.int .i64 (0 : Int), .int .i64 (9 : Int)]) vh)
  (IfB (!reserve) (∃ a1 : Addr, a = some a1 ∧
      ∃ c1 : Int, hcell h (a1.add 1) = some (.int .i64 c1) ∧
      HCalls Try.prog fn_alloc_Alloc_Count #[.pointer a] vh fun r1 vh1 =>
      ∃ c2 : Int, r1 = .int .i64 c2 ∧
      Ext h vh1 ∧
      IfB (decide (c2 ≤ c1)) (R (.tuple #[.int .i64 (0 : Int), .int .i64 (9 : Int)]) vh1)
      (∃ a2 : Addr, a = some a2 ∧
        ∃ c3 : Sl, hcell vh1 a2 = some (.slice c3.base c3.len c3.cap) ∧
        ∃ (vI : Int → Int → Nat → Hp → Prop) (n : Nat), vI (-1 : Int) (0 : Int) n vh1 ∧
        ∀ _junk : Nat → Value, ∀ best : Int, ∀ t30 : Int, ∀ (n1 : Nat) (vh2 : Hp), vI best t30 n1 vh2 →
        IfB (decide (t30 < (c3.len : Int))) (∃ a3 : Addr, c3.base = some a3 ∧ 0 ≤ t30 ∧ t30 < (c3.len : Int) ∧
          ∃ c4 : Bool, ∃ c5 : Int, hcell vh2 ((a3.add ((t30).toNat * 2))) = some (.bool c4) ∧ hcell vh2 ((a3.add ((t30).toNat * 2)).add 1) = some (.int .i64 c5) ∧
          let vh3 := alc vh2 [.bool false, .int .i64 (0 : Int)] 55;
          stCells (nw vh2) 0 [.bool c4, .int .i64 c5] vh3 fun vh4 =>
          ∃ c6 : Bool, hcell vh4 (nw vh2) = some (.bool c6) ∧
          IfB c6 (∃ n2, n2 < n1 ∧ vI best (iAdd .i64 t30 (1 : Int)) n2 vh4)
          (IfB (decide (best ≥ (0 : Int))) (∃ c7 : Int, hcell vh4 ((nw vh2).add 1) = some (.int .i64 c7) ∧
              ∃ a4 : Addr, a = some a4 ∧
              ∃ c8 : Sl, hcell vh4 a4 = some (.slice c8.base c8.len c8.cap) ∧
              ∃ a5 : Addr, c8.base = some a5 ∧ 0 ≤ best ∧ best < (c8.len : Int) ∧
              ∃ c9 : Int, hcell vh4 ((a5.add ((best).toNat * 2)).add 1) = some (.int .i64 c9) ∧
              IfB (decide (c7 ≥ c9)) (∃ n2, n2 < n1 ∧ vI best (iAdd .i64 t30 (1 : Int)) n2 vh4)
              (∃ n2, n2 < n1 ∧ vI t30 (iAdd .i64 t30 (1 : Int)) n2 vh4))
            (∃ n2, n2 < n1 ∧ vI t30 (iAdd .i64 t30 (1 : Int)) n2 vh4)))
        (∃ a6 : Addr, a = some a6 ∧
          ∃ c10 : Sl, hcell vh2 a6 = some (.slice c10.base c10.len c10.cap) ∧
          ∃ a7 : Addr, c10.base = some a7 ∧ 0 ≤ best ∧ best < (c10.len : Int) ∧
          StOk vh2 (a7.add ((best).toNat * 2)) ∧
          let vh5 := hset vh2 (a7.add ((best).toNat * 2)) (.bool true);
          R (.tuple #[.int .i64 best, .int .i64 (0 : Int)]) vh5)))
    (∃ a8 : Addr, a = some a8 ∧
      ∃ c11 : Sl, hcell vh a8 = some (.slice c11.base c11.len c11.cap) ∧
      ∃ (vI1 : Int → Int → Nat → Hp → Prop) (n3 : Nat), vI1 (-1 : Int) (0 : Int) n3 vh ∧
      ∀ _junk : Nat → Value, ∀ best1 : Int, ∀ t301 : Int, ∀ (n4 : Nat) (vh6 : Hp), vI1 best1 t301 n4 vh6 →
      IfB (decide (t301 < (c11.len : Int))) (∃ a9 : Addr, c11.base = some a9 ∧ 0 ≤ t301 ∧ t301 < (c11.len : Int) ∧
        ∃ c12 : Bool, ∃ c13 : Int, hcell vh6 ((a9.add ((t301).toNat * 2))) = some (.bool c12) ∧ hcell vh6 ((a9.add ((t301).toNat * 2)).add 1) = some (.int .i64 c13) ∧
        let vh7 := alc vh6 [.bool false, .int .i64 (0 : Int)] 55;
        stCells (nw vh6) 0 [.bool c12, .int .i64 c13] vh7 fun vh8 =>
        ∃ c14 : Bool, hcell vh8 (nw vh6) = some (.bool c14) ∧
        IfB c14 (∃ n5, n5 < n4 ∧ vI1 best1 (iAdd .i64 t301 (1 : Int)) n5 vh8)
        (IfB (decide (best1 ≥ (0 : Int))) (∃ c15 : Int, hcell vh8 ((nw vh6).add 1) = some (.int .i64 c15) ∧
            ∃ a10 : Addr, a = some a10 ∧
            ∃ c16 : Sl, hcell vh8 a10 = some (.slice c16.base c16.len c16.cap) ∧
            ∃ a11 : Addr, c16.base = some a11 ∧ 0 ≤ best1 ∧ best1 < (c16.len : Int) ∧
            ∃ c17 : Int, hcell vh8 ((a11.add ((best1).toNat * 2)).add 1) = some (.int .i64 c17) ∧
            IfB (decide (c15 ≥ c17)) (∃ n5, n5 < n4 ∧ vI1 best1 (iAdd .i64 t301 (1 : Int)) n5 vh8)
            (∃ n5, n5 < n4 ∧ vI1 t301 (iAdd .i64 t301 (1 : Int)) n5 vh8))
          (∃ n5, n5 < n4 ∧ vI1 t301 (iAdd .i64 t301 (1 : Int)) n5 vh8)))
      (∃ a12 : Addr, a = some a12 ∧
        ∃ c18 : Sl, hcell vh6 a12 = some (.slice c18.base c18.len c18.cap) ∧
        ∃ a13 : Addr, c18.base = some a13 ∧ 0 ≤ best1 ∧ best1 < (c18.len : Int) ∧
        StOk vh6 (a13.add ((best1).toNat * 2)) ∧
        let vh9 := hset vh6 (a13.add ((best1).toNat * 2)) (.bool true);
        R (.tuple #[.int .i64 best1, .int .i64 (0 : Int)]) vh9)))
theorem alloc_Alloc_Take_vc {a : Option Addr} {reserve : Bool} {h : Hp} {R : Value → Hp → Prop} (H : vcalloc_Alloc_Take a reserve h R) : HCalls Try.prog fn_alloc_Alloc_Take #[.pointer a, .bool reserve] h R :=
  vc_fn (annOf [(0, [(6, .int .i64), (30, .int .i64)])] []) Try.func10 [.pointer a, .bool reserve] (by kernel_rfl) (V := vcalloc_Alloc_Take a reserve h R) (by kernel_rfl) H

def vcscarpalike_Round (k : Int) (n : Int) (h : Hp) (R : Value → Hp → Prop) : Prop :=
  n ≠ 0 ∧
  IfB (decide ((iRem k n) < (0 : Int))) (R (.int .i64 (iAdd .i64 (iRem k n) n)) h)
  (R (.int .i64 (iRem k n)) h)
theorem scarpalike_Round_vc {k : Int} {n : Int} {h : Hp} {R : Value → Hp → Prop} (H : vcscarpalike_Round k n h R) : HCalls Try.prog fn_scarpalike_Round #[.int .i64 k, .int .i64 n] h R :=
  vc_fn (annOf [] []) Try.func11 [.int .i64 k, .int .i64 n] (by kernel_rfl) (V := vcscarpalike_Round k n h R) (by kernel_rfl) H

def vcalloc_Alloc_Free (a : Option Addr) (i : Int) (h : Hp) (R : Value → Hp → Prop) : Prop :=
  HCalls Try.prog fn_alloc_Alloc_at #[.pointer a, .int .i64 i] h fun r vh =>
  ∃ c : Option Addr, r = .pointer c ∧
  IfB (isNone? c) (R (.int .i64 (1 : Int)) vh)
  (∃ a1 : Addr, c = some a1 ∧
    ∃ c1 : Bool, hcell vh a1 = some (.bool c1) ∧
    IfB (!c1) (R (.int .i64 (14 : Int)) vh)
    (∃ a2 : Addr, c = some a2 ∧
      StOk vh a2 ∧
      let vh1 := hset vh a2 (.bool false);
      ∃ a3 : Addr, c = some a3 ∧
      ∃ c2 : Int, hcell vh1 (a3.add 1) = some (.int .i64 c2) ∧
      ∃ a4 : Addr, c = some a4 ∧
      StOk vh1 (a4.add 1) ∧
      let vh2 := hset vh1 (a4.add 1) (.int .i64 (iAdd .i64 c2 (1 : Int)));
      R (.int .i64 (0 : Int)) vh2))
theorem alloc_Alloc_Free_vc {a : Option Addr} {i : Int} {h : Hp} {R : Value → Hp → Prop} (H : vcalloc_Alloc_Free a i h R) : HCalls Try.prog fn_alloc_Alloc_Free #[.pointer a, .int .i64 i] h R :=
  vc_fn (annOf [] []) Try.func12 [.pointer a, .int .i64 i] (by kernel_rfl) (V := vcalloc_Alloc_Free a i h R) (by kernel_rfl) H

def vcalloc_Alloc_Count (a : Option Addr) (h : Hp) (R : Value → Hp → Prop) : Prop :=
  HCalls Try.prog fn_alloc_Alloc_List #[.pointer a] h fun r vh =>
  ∃ c : Sl, r = .slice c.base c.len c.cap ∧
  R (.int .i64 (c.len : Int)) vh
theorem alloc_Alloc_Count_vc {a : Option Addr} {h : Hp} {R : Value → Hp → Prop} (H : vcalloc_Alloc_Count a h R) : HCalls Try.prog fn_alloc_Alloc_Count #[.pointer a] h R :=
  vc_fn (annOf [] []) Try.func13 [.pointer a] (by kernel_rfl) (V := vcalloc_Alloc_Count a h R) (by kernel_rfl) H

def vcalloc_Alloc_Wear (a : Option Addr) (i : Int) (h : Hp) (R : Value → Hp → Prop) : Prop :=
  HCalls Try.prog fn_alloc_Alloc_at #[.pointer a, .int .i64 i] h fun r vh =>
  ∃ c : Option Addr, r = .pointer c ∧
  IfB (isNone? c) (R (.int .i64 (0 : Int)) vh)
  (∃ a1 : Addr, c = some a1 ∧
    ∃ c1 : Int, hcell vh (a1.add 1) = some (.int .i64 c1) ∧
    R (.int .i64 c1) vh)
theorem alloc_Alloc_Wear_vc {a : Option Addr} {i : Int} {h : Hp} {R : Value → Hp → Prop} (H : vcalloc_Alloc_Wear a i h R) : HCalls Try.prog fn_alloc_Alloc_Wear #[.pointer a, .int .i64 i] h R :=
  vc_fn (annOf [] []) Try.func14 [.pointer a, .int .i64 i] (by kernel_rfl) (V := vcalloc_Alloc_Wear a i h R) (by kernel_rfl) H

def vcscarpref9_NewAlloc (zones : Int) (spare : Int) (h : Hp) (R : Value → Hp → Prop) : Prop :=
  IfB (decide (zones < (1 : Int))) (R (.tuple #[.pointer none, .int .i64 (1 : Int)]) h)
  (IfB (decide (zones > (64 : Int))) (R (.tuple #[.pointer none, .int .i64 (1 : Int)]) h)
    (IfB (decide (spare < (0 : Int))) (R (.tuple #[.pointer none, .int .i64 (1 : Int)]) h)
      (IfB (decide (spare > zones)) (R (.tuple #[.pointer none, .int .i64 (1 : Int)]) h)
        ((MkC 4 1 #[.bool false] zones zones h fun s vh =>
            Ext h vh ∧
            MkC 3 8 #[.int .i64 (0 : Int)] zones zones vh fun s1 vh1 =>
            Ext h vh1 ∧
            let vh2 := alc vh1 [.slice s.base s.len s.cap, .slice s1.base s1.len s1.cap, .int .i64 spare] 46;
            Ext h vh2 ∧
            ∃ (vI : Int → Nat → Hp → Prop) (n : Nat), vI (0 : Int) n vh2 ∧
            ∀ _junk : Nat → Value, ∀ i : Int, ∀ (n1 : Nat) (vh3 : Hp), vI i n1 vh3 →
            IfB (decide (i < zones)) (∃ a : Addr, (some (nw vh1)) = some a ∧
              ∃ c : Sl, hcell vh3 a = some (.slice c.base c.len c.cap) ∧
              ∃ a1 : Addr, c.base = some a1 ∧ 0 ≤ i ∧ i < (c.len : Int) ∧
              StOk vh3 (a1.add ((i).toNat * 1)) ∧
              let vh4 := hset vh3 (a1.add ((i).toNat * 1)) (.bool true);
              ∃ n2, n2 < n1 ∧ vI (iAdd .i64 i (1 : Int)) n2 vh4)
            (R (.tuple #[.pointer (some (nw vh1)), .int .i64 (0 : Int)]) vh3)) ∧
          (MkC 3 8 #[.int .i64 (0 : Int)] zones zones h fun s2 vh5 =>
            Ext h vh5 ∧
            MkC 4 1 #[.bool false] zones zones vh5 fun s3 vh6 =>
            Ext h vh6 ∧
            let vh7 := alc vh6 [.slice s3.base s3.len s3.cap, .slice s2.base s2.len s2.cap, .int .i64 spare] 46;
            Ext h vh7 ∧
            ∃ (vI1 : Int → Nat → Hp → Prop) (n3 : Nat), vI1 (0 : Int) n3 vh7 ∧
            ∀ _junk : Nat → Value, ∀ i1 : Int, ∀ (n4 : Nat) (vh8 : Hp), vI1 i1 n4 vh8 →
            IfB (decide (i1 < zones)) (∃ a2 : Addr, (some (nw vh6)) = some a2 ∧
              ∃ c1 : Sl, hcell vh8 a2 = some (.slice c1.base c1.len c1.cap) ∧
              ∃ a3 : Addr, c1.base = some a3 ∧ 0 ≤ i1 ∧ i1 < (c1.len : Int) ∧
              StOk vh8 (a3.add ((i1).toNat * 1)) ∧
              let vh9 := hset vh8 (a3.add ((i1).toNat * 1)) (.bool true);
              ∃ n5, n5 < n4 ∧ vI1 (iAdd .i64 i1 (1 : Int)) n5 vh9)
            (R (.tuple #[.pointer (some (nw vh6)), .int .i64 (0 : Int)]) vh8))))))
theorem scarpref9_NewAlloc_vc {zones : Int} {spare : Int} {h : Hp} {R : Value → Hp → Prop} (H : vcscarpref9_NewAlloc zones spare h R) : HCalls Try.prog fn_scarpref9_NewAlloc #[.int .i64 zones, .int .i64 spare] h R :=
  vc_fn (annOf [(0, [(7, .int .i64)])] []) Try.func15 [.int .i64 zones, .int .i64 spare] (by kernel_rfl) (V := vcscarpref9_NewAlloc zones spare h R) (by kernel_rfl) H

def vcscarpref9_Alloc_Take (a : Option Addr) (reserve : Bool) (h : Hp) (R : Value → Hp → Prop) : Prop :=
  HCalls Try.prog fn_scarpref9_Alloc_List #[.pointer a] h fun r vh =>
  ∃ c : Sl, r = .slice c.base c.len c.cap ∧
  IfB ((c.len : Int) == (0 : Int)) (R (.tuple #[.int .i64 (0 : Int), .int .i64 (9 : Int)]) vh)
  (IfB (!reserve) (∃ a1 : Addr, a = some a1 ∧
      ∃ c1 : Int, hcell vh (a1.add 2) = some (.int .i64 c1) ∧
      IfB (decide ((c.len : Int) ≤ c1)) (R (.tuple #[.int .i64 (0 : Int), .int .i64 (9 : Int)]) vh)
      (∃ a2 : Addr, c.base = some a2 ∧ 0 ≤ (0 : Int) ∧ (0 : Int) < (c.len : Int) ∧
        ∃ c2 : Int, hcell vh (a2.add (((0 : Int)).toNat * 1)) = some (.int .i64 c2) ∧
        ∃ (vI : Int → Int → Nat → Hp → Prop) (n : Nat), vI c2 (0 : Int) n vh ∧
        ∀ _junk : Nat → Value, ∀ k : Int, ∀ i : Int, ∀ (n1 : Nat) (vh1 : Hp), vI k i n1 vh1 →
        IfB (decide (i < (c.len : Int))) (∃ a3 : Addr, a = some a3 ∧
          ∃ c3 : Sl, hcell vh1 (a3.add 1) = some (.slice c3.base c3.len c3.cap) ∧
          ∃ a4 : Addr, c.base = some a4 ∧ 0 ≤ i ∧ i < (c.len : Int) ∧
          ∃ c4 : Int, hcell vh1 (a4.add ((i).toNat * 1)) = some (.int .i64 c4) ∧
          ∃ a5 : Addr, c3.base = some a5 ∧ 0 ≤ c4 ∧ c4 < (c3.len : Int) ∧
          ∃ c5 : Int, hcell vh1 (a5.add ((c4).toNat * 1)) = some (.int .i64 c5) ∧
          ∃ a6 : Addr, a = some a6 ∧
          ∃ c6 : Sl, hcell vh1 (a6.add 1) = some (.slice c6.base c6.len c6.cap) ∧
          ∃ a7 : Addr, c6.base = some a7 ∧ 0 ≤ k ∧ k < (c6.len : Int) ∧
          ∃ c7 : Int, hcell vh1 (a7.add ((k).toNat * 1)) = some (.int .i64 c7) ∧
          IfB (decide (c5 < c7)) (∃ a8 : Addr, c.base = some a8 ∧ 0 ≤ i ∧ i < (c.len : Int) ∧
            ∃ c8 : Int, hcell vh1 (a8.add ((i).toNat * 1)) = some (.int .i64 c8) ∧
            ∃ n2, n2 < n1 ∧ vI c8 (iAdd .i64 i (1 : Int)) n2 vh1)
          (∃ n2, n2 < n1 ∧ vI k (iAdd .i64 i (1 : Int)) n2 vh1))
        (∃ a9 : Addr, a = some a9 ∧
          ∃ c9 : Sl, hcell vh1 a9 = some (.slice c9.base c9.len c9.cap) ∧
          ∃ a10 : Addr, c9.base = some a10 ∧ 0 ≤ k ∧ k < (c9.len : Int) ∧
          StOk vh1 (a10.add ((k).toNat * 1)) ∧
          let vh2 := hset vh1 (a10.add ((k).toNat * 1)) (.bool false);
          R (.tuple #[.int .i64 k, .int .i64 (0 : Int)]) vh2)))
    (∃ a11 : Addr, c.base = some a11 ∧ 0 ≤ (0 : Int) ∧ (0 : Int) < (c.len : Int) ∧
      ∃ c10 : Int, hcell vh (a11.add (((0 : Int)).toNat * 1)) = some (.int .i64 c10) ∧
      ∃ (vI1 : Int → Int → Nat → Hp → Prop) (n3 : Nat), vI1 c10 (0 : Int) n3 vh ∧
      ∀ _junk : Nat → Value, ∀ k1 : Int, ∀ i1 : Int, ∀ (n4 : Nat) (vh3 : Hp), vI1 k1 i1 n4 vh3 →
      IfB (decide (i1 < (c.len : Int))) (∃ a12 : Addr, a = some a12 ∧
        ∃ c11 : Sl, hcell vh3 (a12.add 1) = some (.slice c11.base c11.len c11.cap) ∧
        ∃ a13 : Addr, c.base = some a13 ∧ 0 ≤ i1 ∧ i1 < (c.len : Int) ∧
        ∃ c12 : Int, hcell vh3 (a13.add ((i1).toNat * 1)) = some (.int .i64 c12) ∧
        ∃ a14 : Addr, c11.base = some a14 ∧ 0 ≤ c12 ∧ c12 < (c11.len : Int) ∧
        ∃ c13 : Int, hcell vh3 (a14.add ((c12).toNat * 1)) = some (.int .i64 c13) ∧
        ∃ a15 : Addr, a = some a15 ∧
        ∃ c14 : Sl, hcell vh3 (a15.add 1) = some (.slice c14.base c14.len c14.cap) ∧
        ∃ a16 : Addr, c14.base = some a16 ∧ 0 ≤ k1 ∧ k1 < (c14.len : Int) ∧
        ∃ c15 : Int, hcell vh3 (a16.add ((k1).toNat * 1)) = some (.int .i64 c15) ∧
        IfB (decide (c13 < c15)) (∃ a17 : Addr, c.base = some a17 ∧ 0 ≤ i1 ∧ i1 < (c.len : Int) ∧
          ∃ c16 : Int, hcell vh3 (a17.add ((i1).toNat * 1)) = some (.int .i64 c16) ∧
          ∃ n5, n5 < n4 ∧ vI1 c16 (iAdd .i64 i1 (1 : Int)) n5 vh3)
        (∃ n5, n5 < n4 ∧ vI1 k1 (iAdd .i64 i1 (1 : Int)) n5 vh3))
      (∃ a18 : Addr, a = some a18 ∧
        ∃ c17 : Sl, hcell vh3 a18 = some (.slice c17.base c17.len c17.cap) ∧
        ∃ a19 : Addr, c17.base = some a19 ∧ 0 ≤ k1 ∧ k1 < (c17.len : Int) ∧
        StOk vh3 (a19.add ((k1).toNat * 1)) ∧
        let vh4 := hset vh3 (a19.add ((k1).toNat * 1)) (.bool false);
        R (.tuple #[.int .i64 k1, .int .i64 (0 : Int)]) vh4)))
theorem scarpref9_Alloc_Take_vc {a : Option Addr} {reserve : Bool} {h : Hp} {R : Value → Hp → Prop} (H : vcscarpref9_Alloc_Take a reserve h R) : HCalls Try.prog fn_scarpref9_Alloc_Take #[.pointer a, .bool reserve] h R :=
  vc_fn (annOf [(0, [(7, .int .i64), (8, .int .i64)])] []) Try.func16 [.pointer a, .bool reserve] (by kernel_rfl) (V := vcscarpref9_Alloc_Take a reserve h R) (by kernel_rfl) H

def vcscarpref9_Alloc_Free (a : Option Addr) (zone : Int) (h : Hp) (R : Value → Hp → Prop) : Prop :=
  IfB (decide (zone < (0 : Int))) (R (.int .i64 (1 : Int)) h)
  (∃ a1 : Addr, a = some a1 ∧
    ∃ c : Sl, hcell h a1 = some (.slice c.base c.len c.cap) ∧
    IfB (decide (zone ≥ (c.len : Int))) (R (.int .i64 (1 : Int)) h)
    (∃ a2 : Addr, a = some a2 ∧
      ∃ c1 : Sl, hcell h a2 = some (.slice c1.base c1.len c1.cap) ∧
      ∃ a3 : Addr, c1.base = some a3 ∧ 0 ≤ zone ∧ zone < (c1.len : Int) ∧
      ∃ c2 : Bool, hcell h (a3.add ((zone).toNat * 1)) = some (.bool c2) ∧
      IfB c2 (R (.int .i64 (14 : Int)) h)
      (∃ a4 : Addr, a = some a4 ∧
        ∃ c3 : Sl, hcell h a4 = some (.slice c3.base c3.len c3.cap) ∧
        ∃ a5 : Addr, c3.base = some a5 ∧ 0 ≤ zone ∧ zone < (c3.len : Int) ∧
        StOk h (a5.add ((zone).toNat * 1)) ∧
        let vh := hset h (a5.add ((zone).toNat * 1)) (.bool true);
        ∃ a6 : Addr, a = some a6 ∧
        ∃ c4 : Sl, hcell vh (a6.add 1) = some (.slice c4.base c4.len c4.cap) ∧
        ∃ a7 : Addr, c4.base = some a7 ∧ 0 ≤ zone ∧ zone < (c4.len : Int) ∧
        ∃ c5 : Int, hcell vh (a7.add ((zone).toNat * 1)) = some (.int .i64 c5) ∧
        ∃ a8 : Addr, c4.base = some a8 ∧ 0 ≤ zone ∧ zone < (c4.len : Int) ∧
        StOk vh (a8.add ((zone).toNat * 1)) ∧
        let vh1 := hset vh (a8.add ((zone).toNat * 1)) (.int .i64 (iAdd .i64 c5 (1 : Int)));
        R (.int .i64 (0 : Int)) vh1)))
theorem scarpref9_Alloc_Free_vc {a : Option Addr} {zone : Int} {h : Hp} {R : Value → Hp → Prop} (H : vcscarpref9_Alloc_Free a zone h R) : HCalls Try.prog fn_scarpref9_Alloc_Free #[.pointer a, .int .i64 zone] h R :=
  vc_fn (annOf [] []) Try.func17 [.pointer a, .int .i64 zone] (by kernel_rfl) (V := vcscarpref9_Alloc_Free a zone h R) (by kernel_rfl) H

def vcalloc_Alloc_Mark (a : Option Addr) (i : Int) (h : Hp) (R : Value → Hp → Prop) : Prop :=
  HCalls Try.prog fn_alloc_Alloc_at #[.pointer a, .int .i64 i] h fun r vh =>
  ∃ c : Option Addr, r = .pointer c ∧
  IfB (isNone? c) (R (.int .i64 (1 : Int)) vh)
  (∃ a1 : Addr, c = some a1 ∧
    ∃ c1 : Bool, hcell vh a1 = some (.bool c1) ∧
    IfB c1 (R (.int .i64 (14 : Int)) vh)
    (∃ a2 : Addr, c = some a2 ∧
      StOk vh a2 ∧
      let vh1 := hset vh a2 (.bool true);
      R (.int .i64 (0 : Int)) vh1))
theorem alloc_Alloc_Mark_vc {a : Option Addr} {i : Int} {h : Hp} {R : Value → Hp → Prop} (H : vcalloc_Alloc_Mark a i h R) : HCalls Try.prog fn_alloc_Alloc_Mark #[.pointer a, .int .i64 i] h R :=
  vc_fn (annOf [] []) Try.func18 [.pointer a, .int .i64 i] (by kernel_rfl) (V := vcalloc_Alloc_Mark a i h R) (by kernel_rfl) H

def vcscarpref9_Alloc_Mark (a : Option Addr) (zone : Int) (h : Hp) (R : Value → Hp → Prop) : Prop :=
  IfB (decide (zone < (0 : Int))) (R (.int .i64 (1 : Int)) h)
  (∃ a1 : Addr, a = some a1 ∧
    ∃ c : Sl, hcell h a1 = some (.slice c.base c.len c.cap) ∧
    IfB (decide (zone ≥ (c.len : Int))) (R (.int .i64 (1 : Int)) h)
    (∃ a2 : Addr, a = some a2 ∧
      ∃ c1 : Sl, hcell h a2 = some (.slice c1.base c1.len c1.cap) ∧
      ∃ a3 : Addr, c1.base = some a3 ∧ 0 ≤ zone ∧ zone < (c1.len : Int) ∧
      ∃ c2 : Bool, hcell h (a3.add ((zone).toNat * 1)) = some (.bool c2) ∧
      IfB (!c2) (R (.int .i64 (14 : Int)) h)
      (∃ a4 : Addr, a = some a4 ∧
        ∃ c3 : Sl, hcell h a4 = some (.slice c3.base c3.len c3.cap) ∧
        ∃ a5 : Addr, c3.base = some a5 ∧ 0 ≤ zone ∧ zone < (c3.len : Int) ∧
        StOk h (a5.add ((zone).toNat * 1)) ∧
        let vh := hset h (a5.add ((zone).toNat * 1)) (.bool false);
        R (.int .i64 (0 : Int)) vh)))
theorem scarpref9_Alloc_Mark_vc {a : Option Addr} {zone : Int} {h : Hp} {R : Value → Hp → Prop} (H : vcscarpref9_Alloc_Mark a zone h R) : HCalls Try.prog fn_scarpref9_Alloc_Mark #[.pointer a, .int .i64 zone] h R :=
  vc_fn (annOf [] []) Try.func19 [.pointer a, .int .i64 zone] (by kernel_rfl) (V := vcscarpref9_Alloc_Mark a zone h R) (by kernel_rfl) H

def vcscarpref9_Alloc_Count (a : Option Addr) (h : Hp) (R : Value → Hp → Prop) : Prop :=
  HCalls Try.prog fn_scarpref9_Alloc_List #[.pointer a] h fun r vh =>
  ∃ c : Sl, r = .slice c.base c.len c.cap ∧
  R (.int .i64 (c.len : Int)) vh
theorem scarpref9_Alloc_Count_vc {a : Option Addr} {h : Hp} {R : Value → Hp → Prop} (H : vcscarpref9_Alloc_Count a h R) : HCalls Try.prog fn_scarpref9_Alloc_Count #[.pointer a] h R :=
  vc_fn (annOf [] []) Try.func20 [.pointer a] (by kernel_rfl) (V := vcscarpref9_Alloc_Count a h R) (by kernel_rfl) H

def vcscarpalike_Ints (a : Sl) (b : Sl) (h : Hp) (R : Value → Hp → Prop) : Prop :=
  IfB ((a.len : Int) != (b.len : Int)) (R (.bool false) h)
  (∃ (vI : Int → Nat → Hp → Prop) (n : Nat), vI (0 : Int) n h ∧
    ∀ _junk : Nat → Value, ∀ i : Int, ∀ (n1 : Nat) (vh : Hp), vI i n1 vh →
    IfB (decide (i < (a.len : Int))) (∃ a1 : Addr, a.base = some a1 ∧ 0 ≤ i ∧ i < (a.len : Int) ∧
      ∃ c : Int, hcell vh (a1.add ((i).toNat * 1)) = some (.int .i64 c) ∧
      ∃ a2 : Addr, b.base = some a2 ∧ 0 ≤ i ∧ i < (b.len : Int) ∧
      ∃ c1 : Int, hcell vh (a2.add ((i).toNat * 1)) = some (.int .i64 c1) ∧
      IfB (c != c1) (R (.bool false) vh)
      (∃ n2, n2 < n1 ∧ vI (iAdd .i64 i (1 : Int)) n2 vh))
    (R (.bool true) vh))
theorem scarpalike_Ints_vc {a : Sl} {b : Sl} {h : Hp} {R : Value → Hp → Prop} (H : vcscarpalike_Ints a b h R) : HCalls Try.prog fn_scarpalike_Ints #[.slice a.base a.len a.cap, .slice b.base b.len b.cap] h R :=
  vc_fn (annOf [(0, [(5, .int .i64)])] []) Try.func21 [.slice a.base a.len a.cap, .slice b.base b.len b.cap] (by kernel_rfl) (V := vcscarpalike_Ints a b h R) (by kernel_rfl) H

def vcalloc_Alloc_List (a : Option Addr) (h : Hp) (R : Value → Hp → Prop) : Prop :=
  IfB (isNone? a) (R (.slice Sl.nil.base Sl.nil.len Sl.nil.cap) h)
  (∃ a1 : Addr, a = some a1 ∧
    ∃ c : Sl, hcell h a1 = some (.slice c.base c.len c.cap) ∧
    ∃ (vI : Sl → Int → Nat → Hp → Prop) (n : Nat), vI Sl.nil (0 : Int) n h ∧
    ∀ _junk : Nat → Value, ∀ out : Sl, ∀ t12 : Int, ∀ (n1 : Nat) (vh : Hp), vI out t12 n1 vh →
    IfB (decide (t12 < (c.len : Int))) (∃ a2 : Addr, c.base = some a2 ∧ 0 ≤ t12 ∧ t12 < (c.len : Int) ∧
      ∃ c1 : Bool, ∃ c2 : Int, hcell vh ((a2.add ((t12).toNat * 2))) = some (.bool c1) ∧ hcell vh ((a2.add ((t12).toNat * 2)).add 1) = some (.int .i64 c2) ∧
      let vh1 := alc vh [.bool false, .int .i64 (0 : Int)] 55;
      stCells (nw vh) 0 [.bool c1, .int .i64 c2] vh1 fun vh2 =>
      ∃ c3 : Bool, hcell vh2 (nw vh) = some (.bool c3) ∧
      IfB (!c3) (let vh3 := alc vh2 [.int .i64 t12] 3;
        AppC 3 1 8 #[.int .i64 (0 : Int)] out (Sl.mk (some (nw vh2)) 1 1) vh3 fun s vh4 =>
        ∃ n2, n2 < n1 ∧ vI s (iAdd .i64 t12 (1 : Int)) n2 vh4)
      (∃ n2, n2 < n1 ∧ vI out (iAdd .i64 t12 (1 : Int)) n2 vh2))
    (R (.slice out.base out.len out.cap) vh))
theorem alloc_Alloc_List_vc {a : Option Addr} {h : Hp} {R : Value → Hp → Prop} (H : vcalloc_Alloc_List a h R) : HCalls Try.prog fn_alloc_Alloc_List #[.pointer a] h R :=
  vc_fn (annOf [(0, [(2, .sl), (12, .int .i64)])] []) Try.func22 [.pointer a] (by kernel_rfl) (V := vcalloc_Alloc_List a h R) (by kernel_rfl) H

def vcscarpref9_Alloc_List (a : Option Addr) (h : Hp) (R : Value → Hp → Prop) : Prop :=
  ∃ (vI : Sl → Int → Nat → Hp → Prop) (n : Nat), vI Sl.nil (0 : Int) n h ∧
  ∀ _junk : Nat → Value, ∀ l : Sl, ∀ i : Int, ∀ (n1 : Nat) (vh : Hp), vI l i n1 vh →
  ∃ a1 : Addr, a = some a1 ∧
  ∃ c : Sl, hcell vh a1 = some (.slice c.base c.len c.cap) ∧
  IfB (decide (i < (c.len : Int))) (∃ a2 : Addr, a = some a2 ∧
    ∃ c1 : Sl, hcell vh a2 = some (.slice c1.base c1.len c1.cap) ∧
    ∃ a3 : Addr, c1.base = some a3 ∧ 0 ≤ i ∧ i < (c1.len : Int) ∧
    ∃ c2 : Bool, hcell vh (a3.add ((i).toNat * 1)) = some (.bool c2) ∧
    IfB c2 (let vh1 := alc vh [.int .i64 i] 3;
      AppC 3 1 8 #[.int .i64 (0 : Int)] l (Sl.mk (some (nw vh)) 1 1) vh1 fun s vh2 =>
      ∃ n2, n2 < n1 ∧ vI s (iAdd .i64 i (1 : Int)) n2 vh2)
    (∃ n2, n2 < n1 ∧ vI l (iAdd .i64 i (1 : Int)) n2 vh))
  (R (.slice l.base l.len l.cap) vh)
theorem scarpref9_Alloc_List_vc {a : Option Addr} {h : Hp} {R : Value → Hp → Prop} (H : vcscarpref9_Alloc_List a h R) : HCalls Try.prog fn_scarpref9_Alloc_List #[.pointer a] h R :=
  vc_fn (annOf [(0, [(3, .sl), (4, .int .i64)])] []) Try.func23 [.pointer a] (by kernel_rfl) (V := vcscarpref9_Alloc_List a h R) (by kernel_rfl) H

def vcalloc_Alloc_at (a : Option Addr) (i : Int) (h : Hp) (R : Value → Hp → Prop) : Prop :=
  IfB (isNone? a) (R (.pointer none) h)
  (IfB (decide (i < (0 : Int))) (R (.pointer none) h)
    (∃ a1 : Addr, a = some a1 ∧
      ∃ c : Sl, hcell h a1 = some (.slice c.base c.len c.cap) ∧
      IfB (decide (i ≥ (c.len : Int))) (R (.pointer none) h)
      (∃ a2 : Addr, a = some a2 ∧
        ∃ c1 : Sl, hcell h a2 = some (.slice c1.base c1.len c1.cap) ∧
        ∃ a3 : Addr, c1.base = some a3 ∧ 0 ≤ i ∧ i < (c1.len : Int) ∧
        R (.pointer (some (a3.add ((i).toNat * 2)))) h)))
theorem alloc_Alloc_at_vc {a : Option Addr} {i : Int} {h : Hp} {R : Value → Hp → Prop} (H : vcalloc_Alloc_at a i h R) : HCalls Try.prog fn_alloc_Alloc_at #[.pointer a, .int .i64 i] h R :=
  vc_fn (annOf [] []) Try.func24 [.pointer a, .int .i64 i] (by kernel_rfl) (V := vcalloc_Alloc_at a i h R) (by kernel_rfl) H

def vcscarplaw10_AllocOnce (zones : Int) (spare : Int) (l : Sl) (h : Hp) (R : Value → Hp → Prop) : Prop :=
  IfB (decide (zones < (1 : Int))) (HCalls Try.prog fn_scarplaw10_awake #[] h fun r vh =>
    ∃ c : Bool, r = .bool c ∧
    R (.bool c) vh)
  (IfB (decide (zones > (64 : Int))) (HCalls Try.prog fn_scarplaw10_awake #[] h fun r1 vh1 =>
      ∃ c1 : Bool, r1 = .bool c1 ∧
      R (.bool c1) vh1)
    (IfB (decide (spare < (0 : Int))) (HCalls Try.prog fn_scarplaw10_awake #[] h fun r2 vh2 =>
        ∃ c2 : Bool, r2 = .bool c2 ∧
        R (.bool c2) vh2)
      (IfB (decide (spare > zones)) (HCalls Try.prog fn_scarplaw10_awake #[] h fun r3 vh3 =>
          ∃ c3 : Bool, r3 = .bool c3 ∧
          R (.bool c3) vh3)
        (IfB (decide ((l.len : Int) > (500 : Int))) (HCalls Try.prog fn_scarplaw10_awake #[] h fun r4 vh4 =>
            ∃ c4 : Bool, r4 = .bool c4 ∧
            R (.bool c4) vh4)
          (HCalls Try.prog fn_alloc_New #[.int .i64 zones, .int .i64 spare] h fun r5 vh5 =>
            ∃ c5 : Option Addr, ∃ c6 : Int, r5 = .tuple #[.pointer c5, .int .i64 c6] ∧
            IfB (c6 != (0 : Int)) (R (.bool false) vh5)
            (IfB (isNone? c5) (R (.bool false) vh5)
              (MkC 4 1 #[.bool false] zones zones vh5 fun s vh6 =>
                ∃ (vI : Int → Int → Nat → Hp → Prop) (n : Nat), vI zones (0 : Int) n vh6 ∧
                ∀ _junk : Nat → Value, ∀ n3 : Int, ∀ i : Int, ∀ (n1 : Nat) (vh7 : Hp), vI n3 i n1 vh7 →
                IfB (decide (i < (l.len : Int))) (∃ a : Addr, l.base = some a ∧ 0 ≤ i ∧ i < (l.len : Int) ∧
                  ∃ c7 : Int, hcell vh7 (a.add ((i).toNat * 2)) = some (.int .i64 c7) ∧
                  IfB (c7 == (1 : Int)) (∃ a1 : Addr, l.base = some a1 ∧ 0 ≤ i ∧ i < (l.len : Int) ∧
                    ∃ c8 : Int, hcell vh7 (a1.add ((i).toNat * 2)) = some (.int .i64 c8) ∧
                    HCalls Try.prog fn_alloc_Alloc_Take #[.pointer c5, .bool (c8 == (2 : Int))] vh7 fun r6 vh8 =>
                    ∃ c9 : Int, ∃ c10 : Int, r6 = .tuple #[.int .i64 c9, .int .i64 c10] ∧
                    IfB (decide (n3 > (0 : Int))) (∃ a2 : Addr, l.base = some a2 ∧ 0 ≤ i ∧ i < (l.len : Int) ∧
                      ∃ c11 : Int, hcell vh8 (a2.add ((i).toNat * 2)) = some (.int .i64 c11) ∧
                      IfB (c11 == (2 : Int)) (IfB (!((c10 == (0 : Int)) == true)) (R (.bool false) vh8)
                        (IfB (decide (c9 < (0 : Int))) (R (.bool false) vh8)
                          (IfB (decide (c9 ≥ zones)) (R (.bool false) vh8)
                            (∃ a3 : Addr, s.base = some a3 ∧ 0 ≤ c9 ∧ c9 < (s.len : Int) ∧
                              ∃ c12 : Bool, hcell vh8 (a3.add ((c9).toNat * 1)) = some (.bool c12) ∧
                              IfB c12 (R (.bool false) vh8)
                              (∃ a4 : Addr, s.base = some a4 ∧ 0 ≤ c9 ∧ c9 < (s.len : Int) ∧
                                StOk vh8 (a4.add ((c9).toNat * 1)) ∧
                                let vh9 := hset vh8 (a4.add ((c9).toNat * 1)) (.bool true);
                                HCalls Try.prog fn_alloc_Alloc_Count #[.pointer c5] vh9 fun r7 vh10 =>
                                ∃ c13 : Int, r7 = .int .i64 c13 ∧
                                IfB (c13 != (iSub .i64 n3 (1 : Int))) (R (.bool false) vh10)
                                (∃ n2, n2 < n1 ∧ vI (iSub .i64 n3 (1 : Int)) (iAdd .i64 i (1 : Int)) n2 vh10))))))
                      (IfB (!((c10 == (0 : Int)) == (decide (n3 > spare)))) (R (.bool false) vh8)
                        (IfB (decide (n3 > spare)) (IfB (decide (c9 < (0 : Int))) (R (.bool false) vh8)
                            (IfB (decide (c9 ≥ zones)) (R (.bool false) vh8)
                              (∃ a5 : Addr, s.base = some a5 ∧ 0 ≤ c9 ∧ c9 < (s.len : Int) ∧
                                ∃ c14 : Bool, hcell vh8 (a5.add ((c9).toNat * 1)) = some (.bool c14) ∧
                                IfB c14 (R (.bool false) vh8)
                                (∃ a6 : Addr, s.base = some a6 ∧ 0 ≤ c9 ∧ c9 < (s.len : Int) ∧
                                  StOk vh8 (a6.add ((c9).toNat * 1)) ∧
                                  let vh11 := hset vh8 (a6.add ((c9).toNat * 1)) (.bool true);
                                  HCalls Try.prog fn_alloc_Alloc_Count #[.pointer c5] vh11 fun r8 vh12 =>
                                  ∃ c15 : Int, r8 = .int .i64 c15 ∧
                                  IfB (c15 != (iSub .i64 n3 (1 : Int))) (R (.bool false) vh12)
                                  (∃ n2, n2 < n1 ∧ vI (iSub .i64 n3 (1 : Int)) (iAdd .i64 i (1 : Int)) n2 vh12)))))
                          (HCalls Try.prog fn_alloc_Alloc_Count #[.pointer c5] vh8 fun r9 vh13 =>
                            ∃ c16 : Int, r9 = .int .i64 c16 ∧
                            IfB (c16 != n3) (R (.bool false) vh13)
                            (∃ n2, n2 < n1 ∧ vI n3 (iAdd .i64 i (1 : Int)) n2 vh13)))))
                    (IfB (!((c10 == (0 : Int)) == false)) (R (.bool false) vh8)
                      (HCalls Try.prog fn_alloc_Alloc_Count #[.pointer c5] vh8 fun r10 vh14 =>
                        ∃ c17 : Int, r10 = .int .i64 c17 ∧
                        IfB (c17 != n3) (R (.bool false) vh14)
                        (∃ n2, n2 < n1 ∧ vI n3 (iAdd .i64 i (1 : Int)) n2 vh14))))
                  (IfB (c7 == (2 : Int)) (∃ a7 : Addr, l.base = some a7 ∧ 0 ≤ i ∧ i < (l.len : Int) ∧
                      ∃ c18 : Int, hcell vh7 (a7.add ((i).toNat * 2)) = some (.int .i64 c18) ∧
                      HCalls Try.prog fn_alloc_Alloc_Take #[.pointer c5, .bool (c18 == (2 : Int))] vh7 fun r11 vh15 =>
                      ∃ c19 : Int, ∃ c20 : Int, r11 = .tuple #[.int .i64 c19, .int .i64 c20] ∧
                      IfB (decide (n3 > (0 : Int))) (∃ a8 : Addr, l.base = some a8 ∧ 0 ≤ i ∧ i < (l.len : Int) ∧
                        ∃ c21 : Int, hcell vh15 (a8.add ((i).toNat * 2)) = some (.int .i64 c21) ∧
                        IfB (c21 == (2 : Int)) (IfB (!((c20 == (0 : Int)) == true)) (R (.bool false) vh15)
                          (IfB (decide (c19 < (0 : Int))) (R (.bool false) vh15)
                            (IfB (decide (c19 ≥ zones)) (R (.bool false) vh15)
                              (∃ a9 : Addr, s.base = some a9 ∧ 0 ≤ c19 ∧ c19 < (s.len : Int) ∧
                                ∃ c22 : Bool, hcell vh15 (a9.add ((c19).toNat * 1)) = some (.bool c22) ∧
                                IfB c22 (R (.bool false) vh15)
                                (∃ a10 : Addr, s.base = some a10 ∧ 0 ≤ c19 ∧ c19 < (s.len : Int) ∧
                                  StOk vh15 (a10.add ((c19).toNat * 1)) ∧
                                  let vh16 := hset vh15 (a10.add ((c19).toNat * 1)) (.bool true);
                                  HCalls Try.prog fn_alloc_Alloc_Count #[.pointer c5] vh16 fun r12 vh17 =>
                                  ∃ c23 : Int, r12 = .int .i64 c23 ∧
                                  IfB (c23 != (iSub .i64 n3 (1 : Int))) (R (.bool false) vh17)
                                  (∃ n2, n2 < n1 ∧ vI (iSub .i64 n3 (1 : Int)) (iAdd .i64 i (1 : Int)) n2 vh17))))))
                        (IfB (!((c20 == (0 : Int)) == (decide (n3 > spare)))) (R (.bool false) vh15)
                          (IfB (decide (n3 > spare)) (IfB (decide (c19 < (0 : Int))) (R (.bool false) vh15)
                              (IfB (decide (c19 ≥ zones)) (R (.bool false) vh15)
                                (∃ a11 : Addr, s.base = some a11 ∧ 0 ≤ c19 ∧ c19 < (s.len : Int) ∧
                                  ∃ c24 : Bool, hcell vh15 (a11.add ((c19).toNat * 1)) = some (.bool c24) ∧
                                  IfB c24 (R (.bool false) vh15)
                                  (∃ a12 : Addr, s.base = some a12 ∧ 0 ≤ c19 ∧ c19 < (s.len : Int) ∧
                                    StOk vh15 (a12.add ((c19).toNat * 1)) ∧
                                    let vh18 := hset vh15 (a12.add ((c19).toNat * 1)) (.bool true);
                                    HCalls Try.prog fn_alloc_Alloc_Count #[.pointer c5] vh18 fun r13 vh19 =>
                                    ∃ c25 : Int, r13 = .int .i64 c25 ∧
                                    IfB (c25 != (iSub .i64 n3 (1 : Int))) (R (.bool false) vh19)
                                    (∃ n2, n2 < n1 ∧ vI (iSub .i64 n3 (1 : Int)) (iAdd .i64 i (1 : Int)) n2 vh19)))))
                            (HCalls Try.prog fn_alloc_Alloc_Count #[.pointer c5] vh15 fun r14 vh20 =>
                              ∃ c26 : Int, r14 = .int .i64 c26 ∧
                              IfB (c26 != n3) (R (.bool false) vh20)
                              (∃ n2, n2 < n1 ∧ vI n3 (iAdd .i64 i (1 : Int)) n2 vh20)))))
                      (IfB (!((c20 == (0 : Int)) == false)) (R (.bool false) vh15)
                        (HCalls Try.prog fn_alloc_Alloc_Count #[.pointer c5] vh15 fun r15 vh21 =>
                          ∃ c27 : Int, r15 = .int .i64 c27 ∧
                          IfB (c27 != n3) (R (.bool false) vh21)
                          (∃ n2, n2 < n1 ∧ vI n3 (iAdd .i64 i (1 : Int)) n2 vh21))))
                    (IfB (c7 == (3 : Int)) (∃ a13 : Addr, l.base = some a13 ∧ 0 ≤ i ∧ i < (l.len : Int) ∧
                        ∃ c28 : Int, hcell vh7 ((a13.add ((i).toNat * 2)).add 1) = some (.int .i64 c28) ∧
                        HCalls Try.prog fn_scarpalike_Round #[.int .i64 c28, .int .i64 zones] vh7 fun r16 vh22 =>
                        ∃ c29 : Int, r16 = .int .i64 c29 ∧
                        ∃ hR : Hp, Sub hR vh22 ∧
                        ∃ a14 : Addr, s.base = some a14 ∧ 0 ≤ c29 ∧ c29 < (s.len : Int) ∧
                        ∃ c30 : Bool, hcell hR (a14.add ((c29).toNat * 1)) = some (.bool c30) ∧
                        HCalls Try.prog fn_alloc_Alloc_Free #[.pointer c5, .int .i64 c29] vh22 fun r17 vh23 =>
                        ∃ c31 : Int, r17 = .int .i64 c31 ∧
                        Sub hR vh23 ∧
                        IfB (!((c31 == (0 : Int)) == c30)) (R (.bool false) vh23)
                        (∃ a15 : Addr, s.base = some a15 ∧ 0 ≤ c29 ∧ c29 < (s.len : Int) ∧
                          ∃ c32 : Bool, hcell vh23 (a15.add ((c29).toNat * 1)) = some (.bool c32) ∧
                          IfB c32 (∃ a16 : Addr, s.base = some a16 ∧ 0 ≤ c29 ∧ c29 < (s.len : Int) ∧
                            StOk vh23 (a16.add ((c29).toNat * 1)) ∧
                            let vh24 := hset vh23 (a16.add ((c29).toNat * 1)) (.bool false);
                            HCalls Try.prog fn_alloc_Alloc_Count #[.pointer c5] vh24 fun r18 vh25 =>
                            ∃ c33 : Int, r18 = .int .i64 c33 ∧
                            IfB (c33 != (iAdd .i64 n3 (1 : Int))) (R (.bool false) vh25)
                            (∃ n2, n2 < n1 ∧ vI (iAdd .i64 n3 (1 : Int)) (iAdd .i64 i (1 : Int)) n2 vh25))
                          (HCalls Try.prog fn_alloc_Alloc_Count #[.pointer c5] vh23 fun r19 vh26 =>
                            ∃ c34 : Int, r19 = .int .i64 c34 ∧
                            IfB (c34 != n3) (R (.bool false) vh26)
                            (∃ n2, n2 < n1 ∧ vI n3 (iAdd .i64 i (1 : Int)) n2 vh26))))
                      (HCalls Try.prog fn_alloc_Alloc_Count #[.pointer c5] vh7 fun r20 vh27 =>
                        ∃ c35 : Int, r20 = .int .i64 c35 ∧
                        IfB (c35 != n3) (R (.bool false) vh27)
                        (∃ n2, n2 < n1 ∧ vI n3 (iAdd .i64 i (1 : Int)) n2 vh27)))))
                (HCalls Try.prog fn_scarplaw10_awake #[] vh7 fun r21 vh28 =>
                  ∃ c36 : Bool, r21 = .bool c36 ∧
                  R (.bool c36) vh28))))))))
theorem scarplaw10_AllocOnce_vc {zones : Int} {spare : Int} {l : Sl} {h : Hp} {R : Value → Hp → Prop} (H : vcscarplaw10_AllocOnce zones spare l h R) : HCalls Try.prog fn_scarplaw10_AllocOnce #[.int .i64 zones, .int .i64 spare, .slice l.base l.len l.cap] h R :=
  vc_fn (annOfL [(0, [(10, .int .i64), (11, .int .i64)])] [] [25]) Try.func3 [.int .i64 zones, .int .i64 spare, .slice l.base l.len l.cap] (by kernel_rfl) (V := vcscarplaw10_AllocOnce zones spare l h R) (by kernel_rfl) H

def vcscarplaw10_AllocPlays (zones : Int) (spare : Int) (l : Sl) (h : Hp) (R : Value → Hp → Prop) : Prop :=
  IfB (decide ((l.len : Int) > (500 : Int))) (HCalls Try.prog fn_scarplaw10_awake #[] h fun r vh =>
    ∃ c : Bool, r = .bool c ∧
    R (.bool c) vh)
  (HCalls Try.prog fn_alloc_New #[.int .i64 zones, .int .i64 spare] h fun r1 vh1 =>
    ∃ c1 : Option Addr, ∃ c2 : Int, r1 = .tuple #[.pointer c1, .int .i64 c2] ∧
    HCalls Try.prog fn_scarpref9_NewAlloc #[.int .i64 zones, .int .i64 spare] vh1 fun r2 vh2 =>
    ∃ c3 : Option Addr, ∃ c4 : Int, r2 = .tuple #[.pointer c3, .int .i64 c4] ∧
    IfB (c2 != c4) (R (.bool false) vh2)
    (IfB (!((isNone? c1) == (isNone? c3))) (R (.bool false) vh2)
      (IfB (isNone? c1) (HCalls Try.prog fn_scarplaw10_awake #[] vh2 fun r3 vh3 =>
          ∃ c5 : Bool, r3 = .bool c5 ∧
          R (.bool c5) vh3)
        (∃ (vI : Int → Nat → Hp → Prop) (n : Nat), vI (0 : Int) n vh2 ∧
          ∀ _junk : Nat → Value, ∀ i : Int, ∀ (n1 : Nat) (vh4 : Hp), vI i n1 vh4 →
          IfB (decide (i < (l.len : Int))) (∃ a : Addr, l.base = some a ∧ 0 ≤ i ∧ i < (l.len : Int) ∧
            ∃ c6 : Int, ∃ c7 : Int, hcell vh4 ((a.add ((i).toNat * 2))) = some (.int .i64 c6) ∧ hcell vh4 ((a.add ((i).toNat * 2)).add 1) = some (.int .i64 c7) ∧
            let vh5 := alc vh4 [.int .i64 (0 : Int), .int .i64 (0 : Int)] 30;
            stCells (nw vh4) 0 [.int .i64 c6, .int .i64 c7] vh5 fun vh6 =>
            ∃ c8 : Int, hcell vh6 (nw vh4) = some (.int .i64 c8) ∧
            IfB (c8 == (1 : Int)) (∃ c9 : Int, hcell vh6 (nw vh4) = some (.int .i64 c9) ∧
              HCalls Try.prog fn_alloc_Alloc_Take #[.pointer c1, .bool (c9 == (2 : Int))] vh6 fun r4 vh7 =>
              ∃ c10 : Int, ∃ c11 : Int, r4 = .tuple #[.int .i64 c10, .int .i64 c11] ∧
              ∃ c12 : Int, hcell vh7 (nw vh4) = some (.int .i64 c12) ∧
              HCalls Try.prog fn_scarpref9_Alloc_Take #[.pointer c3, .bool (c12 == (2 : Int))] vh7 fun r5 vh8 =>
              ∃ c13 : Int, ∃ c14 : Int, r5 = .tuple #[.int .i64 c13, .int .i64 c14] ∧
              IfB (c10 == c13) (∃ c15 : Int, hcell vh8 ((nw vh4).add 1) = some (.int .i64 c15) ∧
                IfB (decide (c15 ≥ (0 : Int))) (∃ c16 : Int, hcell vh8 ((nw vh4).add 1) = some (.int .i64 c16) ∧
                  IfB (decide (c16 < zones)) (∃ a1 : Addr, c3 = some a1 ∧
                    ∃ c17 : Sl, hcell vh8 (a1.add 1) = some (.slice c17.base c17.len c17.cap) ∧
                    ∃ c18 : Int, hcell vh8 ((nw vh4).add 1) = some (.int .i64 c18) ∧
                    ∃ a2 : Addr, c17.base = some a2 ∧ 0 ≤ c18 ∧ c18 < (c17.len : Int) ∧
                    ∃ c19 : Int, hcell vh8 (a2.add ((c18).toNat * 1)) = some (.int .i64 c19) ∧
                    IfB (!(c11 == c14)) (R (.bool false) vh8)
                    (HCalls Try.prog fn_alloc_Alloc_Count #[.pointer c1] vh8 fun r6 vh9 =>
                      ∃ c20 : Int, r6 = .int .i64 c20 ∧
                      HCalls Try.prog fn_scarpref9_Alloc_Count #[.pointer c3] vh9 fun r7 vh10 =>
                      ∃ c21 : Int, r7 = .int .i64 c21 ∧
                      IfB (c20 != c21) (R (.bool false) vh10)
                      (HCalls Try.prog fn_alloc_Alloc_List #[.pointer c1] vh10 fun r8 vh11 =>
                        ∃ c22 : Sl, r8 = .slice c22.base c22.len c22.cap ∧
                        HCalls Try.prog fn_scarpref9_Alloc_List #[.pointer c3] vh11 fun r9 vh12 =>
                        ∃ c23 : Sl, r9 = .slice c23.base c23.len c23.cap ∧
                        HCalls Try.prog fn_scarpalike_Ints #[.slice c22.base c22.len c22.cap, .slice c23.base c23.len c23.cap] vh12 fun r10 vh13 =>
                        ∃ c24 : Bool, r10 = .bool c24 ∧
                        IfB (!c24) (R (.bool false) vh13)
                        (∃ c25 : Int, hcell vh13 ((nw vh4).add 1) = some (.int .i64 c25) ∧
                          HCalls Try.prog fn_alloc_Alloc_Wear #[.pointer c1, .int .i64 c25] vh13 fun r11 vh14 =>
                          ∃ c26 : Int, r11 = .int .i64 c26 ∧
                          IfB (c26 != c19) (R (.bool false) vh14)
                          (∃ n2, n2 < n1 ∧ vI (iAdd .i64 i (1 : Int)) n2 vh14)))))
                  (IfB (!(c11 == c14)) (R (.bool false) vh8)
                    (HCalls Try.prog fn_alloc_Alloc_Count #[.pointer c1] vh8 fun r12 vh15 =>
                      ∃ c27 : Int, r12 = .int .i64 c27 ∧
                      HCalls Try.prog fn_scarpref9_Alloc_Count #[.pointer c3] vh15 fun r13 vh16 =>
                      ∃ c28 : Int, r13 = .int .i64 c28 ∧
                      IfB (c27 != c28) (R (.bool false) vh16)
                      (HCalls Try.prog fn_alloc_Alloc_List #[.pointer c1] vh16 fun r14 vh17 =>
                        ∃ c29 : Sl, r14 = .slice c29.base c29.len c29.cap ∧
                        HCalls Try.prog fn_scarpref9_Alloc_List #[.pointer c3] vh17 fun r15 vh18 =>
                        ∃ c30 : Sl, r15 = .slice c30.base c30.len c30.cap ∧
                        HCalls Try.prog fn_scarpalike_Ints #[.slice c29.base c29.len c29.cap, .slice c30.base c30.len c30.cap] vh18 fun r16 vh19 =>
                        ∃ c31 : Bool, r16 = .bool c31 ∧
                        IfB (!c31) (R (.bool false) vh19)
                        (∃ c32 : Int, hcell vh19 ((nw vh4).add 1) = some (.int .i64 c32) ∧
                          HCalls Try.prog fn_alloc_Alloc_Wear #[.pointer c1, .int .i64 c32] vh19 fun r17 vh20 =>
                          ∃ c33 : Int, r17 = .int .i64 c33 ∧
                          IfB (c33 != (0 : Int)) (R (.bool false) vh20)
                          (∃ n2, n2 < n1 ∧ vI (iAdd .i64 i (1 : Int)) n2 vh20))))))
                (IfB (!(c11 == c14)) (R (.bool false) vh8)
                  (HCalls Try.prog fn_alloc_Alloc_Count #[.pointer c1] vh8 fun r18 vh21 =>
                    ∃ c34 : Int, r18 = .int .i64 c34 ∧
                    HCalls Try.prog fn_scarpref9_Alloc_Count #[.pointer c3] vh21 fun r19 vh22 =>
                    ∃ c35 : Int, r19 = .int .i64 c35 ∧
                    IfB (c34 != c35) (R (.bool false) vh22)
                    (HCalls Try.prog fn_alloc_Alloc_List #[.pointer c1] vh22 fun r20 vh23 =>
                      ∃ c36 : Sl, r20 = .slice c36.base c36.len c36.cap ∧
                      HCalls Try.prog fn_scarpref9_Alloc_List #[.pointer c3] vh23 fun r21 vh24 =>
                      ∃ c37 : Sl, r21 = .slice c37.base c37.len c37.cap ∧
                      HCalls Try.prog fn_scarpalike_Ints #[.slice c36.base c36.len c36.cap, .slice c37.base c37.len c37.cap] vh24 fun r22 vh25 =>
                      ∃ c38 : Bool, r22 = .bool c38 ∧
                      IfB (!c38) (R (.bool false) vh25)
                      (∃ c39 : Int, hcell vh25 ((nw vh4).add 1) = some (.int .i64 c39) ∧
                        HCalls Try.prog fn_alloc_Alloc_Wear #[.pointer c1, .int .i64 c39] vh25 fun r23 vh26 =>
                        ∃ c40 : Int, r23 = .int .i64 c40 ∧
                        IfB (c40 != (0 : Int)) (R (.bool false) vh26)
                        (∃ n2, n2 < n1 ∧ vI (iAdd .i64 i (1 : Int)) n2 vh26))))))
              (∃ c41 : Int, hcell vh8 ((nw vh4).add 1) = some (.int .i64 c41) ∧
                IfB (decide (c41 ≥ (0 : Int))) (∃ c42 : Int, hcell vh8 ((nw vh4).add 1) = some (.int .i64 c42) ∧
                  IfB (decide (c42 < zones)) (∃ a3 : Addr, c3 = some a3 ∧
                    ∃ c43 : Sl, hcell vh8 (a3.add 1) = some (.slice c43.base c43.len c43.cap) ∧
                    ∃ c44 : Int, hcell vh8 ((nw vh4).add 1) = some (.int .i64 c44) ∧
                    ∃ a4 : Addr, c43.base = some a4 ∧ 0 ≤ c44 ∧ c44 < (c43.len : Int) ∧
                    ∃ c45 : Int, hcell vh8 (a4.add ((c44).toNat * 1)) = some (.int .i64 c45) ∧
                    IfB (!false) (R (.bool false) vh8)
                    (HCalls Try.prog fn_alloc_Alloc_Count #[.pointer c1] vh8 fun r24 vh27 =>
                      ∃ c46 : Int, r24 = .int .i64 c46 ∧
                      HCalls Try.prog fn_scarpref9_Alloc_Count #[.pointer c3] vh27 fun r25 vh28 =>
                      ∃ c47 : Int, r25 = .int .i64 c47 ∧
                      IfB (c46 != c47) (R (.bool false) vh28)
                      (HCalls Try.prog fn_alloc_Alloc_List #[.pointer c1] vh28 fun r26 vh29 =>
                        ∃ c48 : Sl, r26 = .slice c48.base c48.len c48.cap ∧
                        HCalls Try.prog fn_scarpref9_Alloc_List #[.pointer c3] vh29 fun r27 vh30 =>
                        ∃ c49 : Sl, r27 = .slice c49.base c49.len c49.cap ∧
                        HCalls Try.prog fn_scarpalike_Ints #[.slice c48.base c48.len c48.cap, .slice c49.base c49.len c49.cap] vh30 fun r28 vh31 =>
                        ∃ c50 : Bool, r28 = .bool c50 ∧
                        IfB (!c50) (R (.bool false) vh31)
                        (∃ c51 : Int, hcell vh31 ((nw vh4).add 1) = some (.int .i64 c51) ∧
                          HCalls Try.prog fn_alloc_Alloc_Wear #[.pointer c1, .int .i64 c51] vh31 fun r29 vh32 =>
                          ∃ c52 : Int, r29 = .int .i64 c52 ∧
                          IfB (c52 != c45) (R (.bool false) vh32)
                          (∃ n2, n2 < n1 ∧ vI (iAdd .i64 i (1 : Int)) n2 vh32)))))
                  (IfB (!false) (R (.bool false) vh8)
                    (HCalls Try.prog fn_alloc_Alloc_Count #[.pointer c1] vh8 fun r30 vh33 =>
                      ∃ c53 : Int, r30 = .int .i64 c53 ∧
                      HCalls Try.prog fn_scarpref9_Alloc_Count #[.pointer c3] vh33 fun r31 vh34 =>
                      ∃ c54 : Int, r31 = .int .i64 c54 ∧
                      IfB (c53 != c54) (R (.bool false) vh34)
                      (HCalls Try.prog fn_alloc_Alloc_List #[.pointer c1] vh34 fun r32 vh35 =>
                        ∃ c55 : Sl, r32 = .slice c55.base c55.len c55.cap ∧
                        HCalls Try.prog fn_scarpref9_Alloc_List #[.pointer c3] vh35 fun r33 vh36 =>
                        ∃ c56 : Sl, r33 = .slice c56.base c56.len c56.cap ∧
                        HCalls Try.prog fn_scarpalike_Ints #[.slice c55.base c55.len c55.cap, .slice c56.base c56.len c56.cap] vh36 fun r34 vh37 =>
                        ∃ c57 : Bool, r34 = .bool c57 ∧
                        IfB (!c57) (R (.bool false) vh37)
                        (∃ c58 : Int, hcell vh37 ((nw vh4).add 1) = some (.int .i64 c58) ∧
                          HCalls Try.prog fn_alloc_Alloc_Wear #[.pointer c1, .int .i64 c58] vh37 fun r35 vh38 =>
                          ∃ c59 : Int, r35 = .int .i64 c59 ∧
                          IfB (c59 != (0 : Int)) (R (.bool false) vh38)
                          (∃ n2, n2 < n1 ∧ vI (iAdd .i64 i (1 : Int)) n2 vh38))))))
                (IfB (!false) (R (.bool false) vh8)
                  (HCalls Try.prog fn_alloc_Alloc_Count #[.pointer c1] vh8 fun r36 vh39 =>
                    ∃ c60 : Int, r36 = .int .i64 c60 ∧
                    HCalls Try.prog fn_scarpref9_Alloc_Count #[.pointer c3] vh39 fun r37 vh40 =>
                    ∃ c61 : Int, r37 = .int .i64 c61 ∧
                    IfB (c60 != c61) (R (.bool false) vh40)
                    (HCalls Try.prog fn_alloc_Alloc_List #[.pointer c1] vh40 fun r38 vh41 =>
                      ∃ c62 : Sl, r38 = .slice c62.base c62.len c62.cap ∧
                      HCalls Try.prog fn_scarpref9_Alloc_List #[.pointer c3] vh41 fun r39 vh42 =>
                      ∃ c63 : Sl, r39 = .slice c63.base c63.len c63.cap ∧
                      HCalls Try.prog fn_scarpalike_Ints #[.slice c62.base c62.len c62.cap, .slice c63.base c63.len c63.cap] vh42 fun r40 vh43 =>
                      ∃ c64 : Bool, r40 = .bool c64 ∧
                      IfB (!c64) (R (.bool false) vh43)
                      (∃ c65 : Int, hcell vh43 ((nw vh4).add 1) = some (.int .i64 c65) ∧
                        HCalls Try.prog fn_alloc_Alloc_Wear #[.pointer c1, .int .i64 c65] vh43 fun r41 vh44 =>
                        ∃ c66 : Int, r41 = .int .i64 c66 ∧
                        IfB (c66 != (0 : Int)) (R (.bool false) vh44)
                        (∃ n2, n2 < n1 ∧ vI (iAdd .i64 i (1 : Int)) n2 vh44)))))))
            (IfB (c8 == (2 : Int)) (∃ c67 : Int, hcell vh6 (nw vh4) = some (.int .i64 c67) ∧
                HCalls Try.prog fn_alloc_Alloc_Take #[.pointer c1, .bool (c67 == (2 : Int))] vh6 fun r42 vh45 =>
                ∃ c68 : Int, ∃ c69 : Int, r42 = .tuple #[.int .i64 c68, .int .i64 c69] ∧
                ∃ c70 : Int, hcell vh45 (nw vh4) = some (.int .i64 c70) ∧
                HCalls Try.prog fn_scarpref9_Alloc_Take #[.pointer c3, .bool (c70 == (2 : Int))] vh45 fun r43 vh46 =>
                ∃ c71 : Int, ∃ c72 : Int, r43 = .tuple #[.int .i64 c71, .int .i64 c72] ∧
                IfB (c68 == c71) (∃ c73 : Int, hcell vh46 ((nw vh4).add 1) = some (.int .i64 c73) ∧
                  IfB (decide (c73 ≥ (0 : Int))) (∃ c74 : Int, hcell vh46 ((nw vh4).add 1) = some (.int .i64 c74) ∧
                    IfB (decide (c74 < zones)) (∃ a5 : Addr, c3 = some a5 ∧
                      ∃ c75 : Sl, hcell vh46 (a5.add 1) = some (.slice c75.base c75.len c75.cap) ∧
                      ∃ c76 : Int, hcell vh46 ((nw vh4).add 1) = some (.int .i64 c76) ∧
                      ∃ a6 : Addr, c75.base = some a6 ∧ 0 ≤ c76 ∧ c76 < (c75.len : Int) ∧
                      ∃ c77 : Int, hcell vh46 (a6.add ((c76).toNat * 1)) = some (.int .i64 c77) ∧
                      IfB (!(c69 == c72)) (R (.bool false) vh46)
                      (HCalls Try.prog fn_alloc_Alloc_Count #[.pointer c1] vh46 fun r44 vh47 =>
                        ∃ c78 : Int, r44 = .int .i64 c78 ∧
                        HCalls Try.prog fn_scarpref9_Alloc_Count #[.pointer c3] vh47 fun r45 vh48 =>
                        ∃ c79 : Int, r45 = .int .i64 c79 ∧
                        IfB (c78 != c79) (R (.bool false) vh48)
                        (HCalls Try.prog fn_alloc_Alloc_List #[.pointer c1] vh48 fun r46 vh49 =>
                          ∃ c80 : Sl, r46 = .slice c80.base c80.len c80.cap ∧
                          HCalls Try.prog fn_scarpref9_Alloc_List #[.pointer c3] vh49 fun r47 vh50 =>
                          ∃ c81 : Sl, r47 = .slice c81.base c81.len c81.cap ∧
                          HCalls Try.prog fn_scarpalike_Ints #[.slice c80.base c80.len c80.cap, .slice c81.base c81.len c81.cap] vh50 fun r48 vh51 =>
                          ∃ c82 : Bool, r48 = .bool c82 ∧
                          IfB (!c82) (R (.bool false) vh51)
                          (∃ c83 : Int, hcell vh51 ((nw vh4).add 1) = some (.int .i64 c83) ∧
                            HCalls Try.prog fn_alloc_Alloc_Wear #[.pointer c1, .int .i64 c83] vh51 fun r49 vh52 =>
                            ∃ c84 : Int, r49 = .int .i64 c84 ∧
                            IfB (c84 != c77) (R (.bool false) vh52)
                            (∃ n2, n2 < n1 ∧ vI (iAdd .i64 i (1 : Int)) n2 vh52)))))
                    (IfB (!(c69 == c72)) (R (.bool false) vh46)
                      (HCalls Try.prog fn_alloc_Alloc_Count #[.pointer c1] vh46 fun r50 vh53 =>
                        ∃ c85 : Int, r50 = .int .i64 c85 ∧
                        HCalls Try.prog fn_scarpref9_Alloc_Count #[.pointer c3] vh53 fun r51 vh54 =>
                        ∃ c86 : Int, r51 = .int .i64 c86 ∧
                        IfB (c85 != c86) (R (.bool false) vh54)
                        (HCalls Try.prog fn_alloc_Alloc_List #[.pointer c1] vh54 fun r52 vh55 =>
                          ∃ c87 : Sl, r52 = .slice c87.base c87.len c87.cap ∧
                          HCalls Try.prog fn_scarpref9_Alloc_List #[.pointer c3] vh55 fun r53 vh56 =>
                          ∃ c88 : Sl, r53 = .slice c88.base c88.len c88.cap ∧
                          HCalls Try.prog fn_scarpalike_Ints #[.slice c87.base c87.len c87.cap, .slice c88.base c88.len c88.cap] vh56 fun r54 vh57 =>
                          ∃ c89 : Bool, r54 = .bool c89 ∧
                          IfB (!c89) (R (.bool false) vh57)
                          (∃ c90 : Int, hcell vh57 ((nw vh4).add 1) = some (.int .i64 c90) ∧
                            HCalls Try.prog fn_alloc_Alloc_Wear #[.pointer c1, .int .i64 c90] vh57 fun r55 vh58 =>
                            ∃ c91 : Int, r55 = .int .i64 c91 ∧
                            IfB (c91 != (0 : Int)) (R (.bool false) vh58)
                            (∃ n2, n2 < n1 ∧ vI (iAdd .i64 i (1 : Int)) n2 vh58))))))
                  (IfB (!(c69 == c72)) (R (.bool false) vh46)
                    (HCalls Try.prog fn_alloc_Alloc_Count #[.pointer c1] vh46 fun r56 vh59 =>
                      ∃ c92 : Int, r56 = .int .i64 c92 ∧
                      HCalls Try.prog fn_scarpref9_Alloc_Count #[.pointer c3] vh59 fun r57 vh60 =>
                      ∃ c93 : Int, r57 = .int .i64 c93 ∧
                      IfB (c92 != c93) (R (.bool false) vh60)
                      (HCalls Try.prog fn_alloc_Alloc_List #[.pointer c1] vh60 fun r58 vh61 =>
                        ∃ c94 : Sl, r58 = .slice c94.base c94.len c94.cap ∧
                        HCalls Try.prog fn_scarpref9_Alloc_List #[.pointer c3] vh61 fun r59 vh62 =>
                        ∃ c95 : Sl, r59 = .slice c95.base c95.len c95.cap ∧
                        HCalls Try.prog fn_scarpalike_Ints #[.slice c94.base c94.len c94.cap, .slice c95.base c95.len c95.cap] vh62 fun r60 vh63 =>
                        ∃ c96 : Bool, r60 = .bool c96 ∧
                        IfB (!c96) (R (.bool false) vh63)
                        (∃ c97 : Int, hcell vh63 ((nw vh4).add 1) = some (.int .i64 c97) ∧
                          HCalls Try.prog fn_alloc_Alloc_Wear #[.pointer c1, .int .i64 c97] vh63 fun r61 vh64 =>
                          ∃ c98 : Int, r61 = .int .i64 c98 ∧
                          IfB (c98 != (0 : Int)) (R (.bool false) vh64)
                          (∃ n2, n2 < n1 ∧ vI (iAdd .i64 i (1 : Int)) n2 vh64))))))
                (∃ c99 : Int, hcell vh46 ((nw vh4).add 1) = some (.int .i64 c99) ∧
                  IfB (decide (c99 ≥ (0 : Int))) (∃ c100 : Int, hcell vh46 ((nw vh4).add 1) = some (.int .i64 c100) ∧
                    IfB (decide (c100 < zones)) (∃ a7 : Addr, c3 = some a7 ∧
                      ∃ c101 : Sl, hcell vh46 (a7.add 1) = some (.slice c101.base c101.len c101.cap) ∧
                      ∃ c102 : Int, hcell vh46 ((nw vh4).add 1) = some (.int .i64 c102) ∧
                      ∃ a8 : Addr, c101.base = some a8 ∧ 0 ≤ c102 ∧ c102 < (c101.len : Int) ∧
                      ∃ c103 : Int, hcell vh46 (a8.add ((c102).toNat * 1)) = some (.int .i64 c103) ∧
                      IfB (!false) (R (.bool false) vh46)
                      (HCalls Try.prog fn_alloc_Alloc_Count #[.pointer c1] vh46 fun r62 vh65 =>
                        ∃ c104 : Int, r62 = .int .i64 c104 ∧
                        HCalls Try.prog fn_scarpref9_Alloc_Count #[.pointer c3] vh65 fun r63 vh66 =>
                        ∃ c105 : Int, r63 = .int .i64 c105 ∧
                        IfB (c104 != c105) (R (.bool false) vh66)
                        (HCalls Try.prog fn_alloc_Alloc_List #[.pointer c1] vh66 fun r64 vh67 =>
                          ∃ c106 : Sl, r64 = .slice c106.base c106.len c106.cap ∧
                          HCalls Try.prog fn_scarpref9_Alloc_List #[.pointer c3] vh67 fun r65 vh68 =>
                          ∃ c107 : Sl, r65 = .slice c107.base c107.len c107.cap ∧
                          HCalls Try.prog fn_scarpalike_Ints #[.slice c106.base c106.len c106.cap, .slice c107.base c107.len c107.cap] vh68 fun r66 vh69 =>
                          ∃ c108 : Bool, r66 = .bool c108 ∧
                          IfB (!c108) (R (.bool false) vh69)
                          (∃ c109 : Int, hcell vh69 ((nw vh4).add 1) = some (.int .i64 c109) ∧
                            HCalls Try.prog fn_alloc_Alloc_Wear #[.pointer c1, .int .i64 c109] vh69 fun r67 vh70 =>
                            ∃ c110 : Int, r67 = .int .i64 c110 ∧
                            IfB (c110 != c103) (R (.bool false) vh70)
                            (∃ n2, n2 < n1 ∧ vI (iAdd .i64 i (1 : Int)) n2 vh70)))))
                    (IfB (!false) (R (.bool false) vh46)
                      (HCalls Try.prog fn_alloc_Alloc_Count #[.pointer c1] vh46 fun r68 vh71 =>
                        ∃ c111 : Int, r68 = .int .i64 c111 ∧
                        HCalls Try.prog fn_scarpref9_Alloc_Count #[.pointer c3] vh71 fun r69 vh72 =>
                        ∃ c112 : Int, r69 = .int .i64 c112 ∧
                        IfB (c111 != c112) (R (.bool false) vh72)
                        (HCalls Try.prog fn_alloc_Alloc_List #[.pointer c1] vh72 fun r70 vh73 =>
                          ∃ c113 : Sl, r70 = .slice c113.base c113.len c113.cap ∧
                          HCalls Try.prog fn_scarpref9_Alloc_List #[.pointer c3] vh73 fun r71 vh74 =>
                          ∃ c114 : Sl, r71 = .slice c114.base c114.len c114.cap ∧
                          HCalls Try.prog fn_scarpalike_Ints #[.slice c113.base c113.len c113.cap, .slice c114.base c114.len c114.cap] vh74 fun r72 vh75 =>
                          ∃ c115 : Bool, r72 = .bool c115 ∧
                          IfB (!c115) (R (.bool false) vh75)
                          (∃ c116 : Int, hcell vh75 ((nw vh4).add 1) = some (.int .i64 c116) ∧
                            HCalls Try.prog fn_alloc_Alloc_Wear #[.pointer c1, .int .i64 c116] vh75 fun r73 vh76 =>
                            ∃ c117 : Int, r73 = .int .i64 c117 ∧
                            IfB (c117 != (0 : Int)) (R (.bool false) vh76)
                            (∃ n2, n2 < n1 ∧ vI (iAdd .i64 i (1 : Int)) n2 vh76))))))
                  (IfB (!false) (R (.bool false) vh46)
                    (HCalls Try.prog fn_alloc_Alloc_Count #[.pointer c1] vh46 fun r74 vh77 =>
                      ∃ c118 : Int, r74 = .int .i64 c118 ∧
                      HCalls Try.prog fn_scarpref9_Alloc_Count #[.pointer c3] vh77 fun r75 vh78 =>
                      ∃ c119 : Int, r75 = .int .i64 c119 ∧
                      IfB (c118 != c119) (R (.bool false) vh78)
                      (HCalls Try.prog fn_alloc_Alloc_List #[.pointer c1] vh78 fun r76 vh79 =>
                        ∃ c120 : Sl, r76 = .slice c120.base c120.len c120.cap ∧
                        HCalls Try.prog fn_scarpref9_Alloc_List #[.pointer c3] vh79 fun r77 vh80 =>
                        ∃ c121 : Sl, r77 = .slice c121.base c121.len c121.cap ∧
                        HCalls Try.prog fn_scarpalike_Ints #[.slice c120.base c120.len c120.cap, .slice c121.base c121.len c121.cap] vh80 fun r78 vh81 =>
                        ∃ c122 : Bool, r78 = .bool c122 ∧
                        IfB (!c122) (R (.bool false) vh81)
                        (∃ c123 : Int, hcell vh81 ((nw vh4).add 1) = some (.int .i64 c123) ∧
                          HCalls Try.prog fn_alloc_Alloc_Wear #[.pointer c1, .int .i64 c123] vh81 fun r79 vh82 =>
                          ∃ c124 : Int, r79 = .int .i64 c124 ∧
                          IfB (c124 != (0 : Int)) (R (.bool false) vh82)
                          (∃ n2, n2 < n1 ∧ vI (iAdd .i64 i (1 : Int)) n2 vh82)))))))
              (IfB (c8 == (3 : Int)) (∃ hR : Hp, Sub hR vh6 ∧
                  ∃ c125 : Int, hcell hR ((nw vh4).add 1) = some (.int .i64 c125) ∧
                  ∃ c126 : Int, hcell hR ((nw vh4).add 1) = some (.int .i64 c126) ∧
                  HCalls Try.prog fn_alloc_Alloc_Free #[.pointer c1, .int .i64 c125] vh6 fun r80 vh83 =>
                  ∃ c127 : Int, r80 = .int .i64 c127 ∧
                  Sub hR vh83 ∧
                  HCalls Try.prog fn_scarpref9_Alloc_Free #[.pointer c3, .int .i64 c126] vh83 fun r81 vh84 =>
                  ∃ c128 : Int, r81 = .int .i64 c128 ∧
                  Sub hR vh84 ∧
                  ∃ c129 : Int, hcell vh84 ((nw vh4).add 1) = some (.int .i64 c129) ∧
                  IfB (decide (c129 ≥ (0 : Int))) (∃ c130 : Int, hcell vh84 ((nw vh4).add 1) = some (.int .i64 c130) ∧
                    IfB (decide (c130 < zones)) (∃ a9 : Addr, c3 = some a9 ∧
                      ∃ c131 : Sl, hcell vh84 (a9.add 1) = some (.slice c131.base c131.len c131.cap) ∧
                      ∃ c132 : Int, hcell vh84 ((nw vh4).add 1) = some (.int .i64 c132) ∧
                      ∃ a10 : Addr, c131.base = some a10 ∧ 0 ≤ c132 ∧ c132 < (c131.len : Int) ∧
                      ∃ c133 : Int, hcell vh84 (a10.add ((c132).toNat * 1)) = some (.int .i64 c133) ∧
                      IfB (!(c127 == c128)) (R (.bool false) vh84)
                      (HCalls Try.prog fn_alloc_Alloc_Count #[.pointer c1] vh84 fun r82 vh85 =>
                        ∃ c134 : Int, r82 = .int .i64 c134 ∧
                        HCalls Try.prog fn_scarpref9_Alloc_Count #[.pointer c3] vh85 fun r83 vh86 =>
                        ∃ c135 : Int, r83 = .int .i64 c135 ∧
                        IfB (c134 != c135) (R (.bool false) vh86)
                        (HCalls Try.prog fn_alloc_Alloc_List #[.pointer c1] vh86 fun r84 vh87 =>
                          ∃ c136 : Sl, r84 = .slice c136.base c136.len c136.cap ∧
                          HCalls Try.prog fn_scarpref9_Alloc_List #[.pointer c3] vh87 fun r85 vh88 =>
                          ∃ c137 : Sl, r85 = .slice c137.base c137.len c137.cap ∧
                          HCalls Try.prog fn_scarpalike_Ints #[.slice c136.base c136.len c136.cap, .slice c137.base c137.len c137.cap] vh88 fun r86 vh89 =>
                          ∃ c138 : Bool, r86 = .bool c138 ∧
                          IfB (!c138) (R (.bool false) vh89)
                          (∃ c139 : Int, hcell vh89 ((nw vh4).add 1) = some (.int .i64 c139) ∧
                            HCalls Try.prog fn_alloc_Alloc_Wear #[.pointer c1, .int .i64 c139] vh89 fun r87 vh90 =>
                            ∃ c140 : Int, r87 = .int .i64 c140 ∧
                            IfB (c140 != c133) (R (.bool false) vh90)
                            (∃ n2, n2 < n1 ∧ vI (iAdd .i64 i (1 : Int)) n2 vh90)))))
                    (IfB (!(c127 == c128)) (R (.bool false) vh84)
                      (HCalls Try.prog fn_alloc_Alloc_Count #[.pointer c1] vh84 fun r88 vh91 =>
                        ∃ c141 : Int, r88 = .int .i64 c141 ∧
                        HCalls Try.prog fn_scarpref9_Alloc_Count #[.pointer c3] vh91 fun r89 vh92 =>
                        ∃ c142 : Int, r89 = .int .i64 c142 ∧
                        IfB (c141 != c142) (R (.bool false) vh92)
                        (HCalls Try.prog fn_alloc_Alloc_List #[.pointer c1] vh92 fun r90 vh93 =>
                          ∃ c143 : Sl, r90 = .slice c143.base c143.len c143.cap ∧
                          HCalls Try.prog fn_scarpref9_Alloc_List #[.pointer c3] vh93 fun r91 vh94 =>
                          ∃ c144 : Sl, r91 = .slice c144.base c144.len c144.cap ∧
                          HCalls Try.prog fn_scarpalike_Ints #[.slice c143.base c143.len c143.cap, .slice c144.base c144.len c144.cap] vh94 fun r92 vh95 =>
                          ∃ c145 : Bool, r92 = .bool c145 ∧
                          IfB (!c145) (R (.bool false) vh95)
                          (∃ c146 : Int, hcell vh95 ((nw vh4).add 1) = some (.int .i64 c146) ∧
                            HCalls Try.prog fn_alloc_Alloc_Wear #[.pointer c1, .int .i64 c146] vh95 fun r93 vh96 =>
                            ∃ c147 : Int, r93 = .int .i64 c147 ∧
                            IfB (c147 != (0 : Int)) (R (.bool false) vh96)
                            (∃ n2, n2 < n1 ∧ vI (iAdd .i64 i (1 : Int)) n2 vh96))))))
                  (IfB (!(c127 == c128)) (R (.bool false) vh84)
                    (HCalls Try.prog fn_alloc_Alloc_Count #[.pointer c1] vh84 fun r94 vh97 =>
                      ∃ c148 : Int, r94 = .int .i64 c148 ∧
                      HCalls Try.prog fn_scarpref9_Alloc_Count #[.pointer c3] vh97 fun r95 vh98 =>
                      ∃ c149 : Int, r95 = .int .i64 c149 ∧
                      IfB (c148 != c149) (R (.bool false) vh98)
                      (HCalls Try.prog fn_alloc_Alloc_List #[.pointer c1] vh98 fun r96 vh99 =>
                        ∃ c150 : Sl, r96 = .slice c150.base c150.len c150.cap ∧
                        HCalls Try.prog fn_scarpref9_Alloc_List #[.pointer c3] vh99 fun r97 vh100 =>
                        ∃ c151 : Sl, r97 = .slice c151.base c151.len c151.cap ∧
                        HCalls Try.prog fn_scarpalike_Ints #[.slice c150.base c150.len c150.cap, .slice c151.base c151.len c151.cap] vh100 fun r98 vh101 =>
                        ∃ c152 : Bool, r98 = .bool c152 ∧
                        IfB (!c152) (R (.bool false) vh101)
                        (∃ c153 : Int, hcell vh101 ((nw vh4).add 1) = some (.int .i64 c153) ∧
                          HCalls Try.prog fn_alloc_Alloc_Wear #[.pointer c1, .int .i64 c153] vh101 fun r99 vh102 =>
                          ∃ c154 : Int, r99 = .int .i64 c154 ∧
                          IfB (c154 != (0 : Int)) (R (.bool false) vh102)
                          (∃ n2, n2 < n1 ∧ vI (iAdd .i64 i (1 : Int)) n2 vh102))))))
                (IfB (c8 == (4 : Int)) (∃ hR1 : Hp, Sub hR1 vh6 ∧
                    ∃ c155 : Int, hcell hR1 ((nw vh4).add 1) = some (.int .i64 c155) ∧
                    ∃ c156 : Int, hcell hR1 ((nw vh4).add 1) = some (.int .i64 c156) ∧
                    HCalls Try.prog fn_alloc_Alloc_Mark #[.pointer c1, .int .i64 c155] vh6 fun r100 vh103 =>
                    ∃ c157 : Int, r100 = .int .i64 c157 ∧
                    Sub hR1 vh103 ∧
                    HCalls Try.prog fn_scarpref9_Alloc_Mark #[.pointer c3, .int .i64 c156] vh103 fun r101 vh104 =>
                    ∃ c158 : Int, r101 = .int .i64 c158 ∧
                    Sub hR1 vh104 ∧
                    ∃ c159 : Int, hcell vh104 ((nw vh4).add 1) = some (.int .i64 c159) ∧
                    IfB (decide (c159 ≥ (0 : Int))) (∃ c160 : Int, hcell vh104 ((nw vh4).add 1) = some (.int .i64 c160) ∧
                      IfB (decide (c160 < zones)) (∃ a11 : Addr, c3 = some a11 ∧
                        ∃ c161 : Sl, hcell vh104 (a11.add 1) = some (.slice c161.base c161.len c161.cap) ∧
                        ∃ c162 : Int, hcell vh104 ((nw vh4).add 1) = some (.int .i64 c162) ∧
                        ∃ a12 : Addr, c161.base = some a12 ∧ 0 ≤ c162 ∧ c162 < (c161.len : Int) ∧
                        ∃ c163 : Int, hcell vh104 (a12.add ((c162).toNat * 1)) = some (.int .i64 c163) ∧
                        IfB (!(c157 == c158)) (R (.bool false) vh104)
                        (HCalls Try.prog fn_alloc_Alloc_Count #[.pointer c1] vh104 fun r102 vh105 =>
                          ∃ c164 : Int, r102 = .int .i64 c164 ∧
                          HCalls Try.prog fn_scarpref9_Alloc_Count #[.pointer c3] vh105 fun r103 vh106 =>
                          ∃ c165 : Int, r103 = .int .i64 c165 ∧
                          IfB (c164 != c165) (R (.bool false) vh106)
                          (HCalls Try.prog fn_alloc_Alloc_List #[.pointer c1] vh106 fun r104 vh107 =>
                            ∃ c166 : Sl, r104 = .slice c166.base c166.len c166.cap ∧
                            HCalls Try.prog fn_scarpref9_Alloc_List #[.pointer c3] vh107 fun r105 vh108 =>
                            ∃ c167 : Sl, r105 = .slice c167.base c167.len c167.cap ∧
                            HCalls Try.prog fn_scarpalike_Ints #[.slice c166.base c166.len c166.cap, .slice c167.base c167.len c167.cap] vh108 fun r106 vh109 =>
                            ∃ c168 : Bool, r106 = .bool c168 ∧
                            IfB (!c168) (R (.bool false) vh109)
                            (∃ c169 : Int, hcell vh109 ((nw vh4).add 1) = some (.int .i64 c169) ∧
                              HCalls Try.prog fn_alloc_Alloc_Wear #[.pointer c1, .int .i64 c169] vh109 fun r107 vh110 =>
                              ∃ c170 : Int, r107 = .int .i64 c170 ∧
                              IfB (c170 != c163) (R (.bool false) vh110)
                              (∃ n2, n2 < n1 ∧ vI (iAdd .i64 i (1 : Int)) n2 vh110)))))
                      (IfB (!(c157 == c158)) (R (.bool false) vh104)
                        (HCalls Try.prog fn_alloc_Alloc_Count #[.pointer c1] vh104 fun r108 vh111 =>
                          ∃ c171 : Int, r108 = .int .i64 c171 ∧
                          HCalls Try.prog fn_scarpref9_Alloc_Count #[.pointer c3] vh111 fun r109 vh112 =>
                          ∃ c172 : Int, r109 = .int .i64 c172 ∧
                          IfB (c171 != c172) (R (.bool false) vh112)
                          (HCalls Try.prog fn_alloc_Alloc_List #[.pointer c1] vh112 fun r110 vh113 =>
                            ∃ c173 : Sl, r110 = .slice c173.base c173.len c173.cap ∧
                            HCalls Try.prog fn_scarpref9_Alloc_List #[.pointer c3] vh113 fun r111 vh114 =>
                            ∃ c174 : Sl, r111 = .slice c174.base c174.len c174.cap ∧
                            HCalls Try.prog fn_scarpalike_Ints #[.slice c173.base c173.len c173.cap, .slice c174.base c174.len c174.cap] vh114 fun r112 vh115 =>
                            ∃ c175 : Bool, r112 = .bool c175 ∧
                            IfB (!c175) (R (.bool false) vh115)
                            (∃ c176 : Int, hcell vh115 ((nw vh4).add 1) = some (.int .i64 c176) ∧
                              HCalls Try.prog fn_alloc_Alloc_Wear #[.pointer c1, .int .i64 c176] vh115 fun r113 vh116 =>
                              ∃ c177 : Int, r113 = .int .i64 c177 ∧
                              IfB (c177 != (0 : Int)) (R (.bool false) vh116)
                              (∃ n2, n2 < n1 ∧ vI (iAdd .i64 i (1 : Int)) n2 vh116))))))
                    (IfB (!(c157 == c158)) (R (.bool false) vh104)
                      (HCalls Try.prog fn_alloc_Alloc_Count #[.pointer c1] vh104 fun r114 vh117 =>
                        ∃ c178 : Int, r114 = .int .i64 c178 ∧
                        HCalls Try.prog fn_scarpref9_Alloc_Count #[.pointer c3] vh117 fun r115 vh118 =>
                        ∃ c179 : Int, r115 = .int .i64 c179 ∧
                        IfB (c178 != c179) (R (.bool false) vh118)
                        (HCalls Try.prog fn_alloc_Alloc_List #[.pointer c1] vh118 fun r116 vh119 =>
                          ∃ c180 : Sl, r116 = .slice c180.base c180.len c180.cap ∧
                          HCalls Try.prog fn_scarpref9_Alloc_List #[.pointer c3] vh119 fun r117 vh120 =>
                          ∃ c181 : Sl, r117 = .slice c181.base c181.len c181.cap ∧
                          HCalls Try.prog fn_scarpalike_Ints #[.slice c180.base c180.len c180.cap, .slice c181.base c181.len c181.cap] vh120 fun r118 vh121 =>
                          ∃ c182 : Bool, r118 = .bool c182 ∧
                          IfB (!c182) (R (.bool false) vh121)
                          (∃ c183 : Int, hcell vh121 ((nw vh4).add 1) = some (.int .i64 c183) ∧
                            HCalls Try.prog fn_alloc_Alloc_Wear #[.pointer c1, .int .i64 c183] vh121 fun r119 vh122 =>
                            ∃ c184 : Int, r119 = .int .i64 c184 ∧
                            IfB (c184 != (0 : Int)) (R (.bool false) vh122)
                            (∃ n2, n2 < n1 ∧ vI (iAdd .i64 i (1 : Int)) n2 vh122))))))
                  (∃ c185 : Int, hcell vh6 ((nw vh4).add 1) = some (.int .i64 c185) ∧
                    IfB (decide (c185 ≥ (0 : Int))) (∃ c186 : Int, hcell vh6 ((nw vh4).add 1) = some (.int .i64 c186) ∧
                      IfB (decide (c186 < zones)) (∃ a13 : Addr, c3 = some a13 ∧
                        ∃ c187 : Sl, hcell vh6 (a13.add 1) = some (.slice c187.base c187.len c187.cap) ∧
                        ∃ c188 : Int, hcell vh6 ((nw vh4).add 1) = some (.int .i64 c188) ∧
                        ∃ a14 : Addr, c187.base = some a14 ∧ 0 ≤ c188 ∧ c188 < (c187.len : Int) ∧
                        ∃ c189 : Int, hcell vh6 (a14.add ((c188).toNat * 1)) = some (.int .i64 c189) ∧
                        IfB (!true) (R (.bool false) vh6)
                        (HCalls Try.prog fn_alloc_Alloc_Count #[.pointer c1] vh6 fun r120 vh123 =>
                          ∃ c190 : Int, r120 = .int .i64 c190 ∧
                          HCalls Try.prog fn_scarpref9_Alloc_Count #[.pointer c3] vh123 fun r121 vh124 =>
                          ∃ c191 : Int, r121 = .int .i64 c191 ∧
                          IfB (c190 != c191) (R (.bool false) vh124)
                          (HCalls Try.prog fn_alloc_Alloc_List #[.pointer c1] vh124 fun r122 vh125 =>
                            ∃ c192 : Sl, r122 = .slice c192.base c192.len c192.cap ∧
                            HCalls Try.prog fn_scarpref9_Alloc_List #[.pointer c3] vh125 fun r123 vh126 =>
                            ∃ c193 : Sl, r123 = .slice c193.base c193.len c193.cap ∧
                            HCalls Try.prog fn_scarpalike_Ints #[.slice c192.base c192.len c192.cap, .slice c193.base c193.len c193.cap] vh126 fun r124 vh127 =>
                            ∃ c194 : Bool, r124 = .bool c194 ∧
                            IfB (!c194) (R (.bool false) vh127)
                            (∃ c195 : Int, hcell vh127 ((nw vh4).add 1) = some (.int .i64 c195) ∧
                              HCalls Try.prog fn_alloc_Alloc_Wear #[.pointer c1, .int .i64 c195] vh127 fun r125 vh128 =>
                              ∃ c196 : Int, r125 = .int .i64 c196 ∧
                              IfB (c196 != c189) (R (.bool false) vh128)
                              (∃ n2, n2 < n1 ∧ vI (iAdd .i64 i (1 : Int)) n2 vh128)))))
                      (IfB (!true) (R (.bool false) vh6)
                        (HCalls Try.prog fn_alloc_Alloc_Count #[.pointer c1] vh6 fun r126 vh129 =>
                          ∃ c197 : Int, r126 = .int .i64 c197 ∧
                          HCalls Try.prog fn_scarpref9_Alloc_Count #[.pointer c3] vh129 fun r127 vh130 =>
                          ∃ c198 : Int, r127 = .int .i64 c198 ∧
                          IfB (c197 != c198) (R (.bool false) vh130)
                          (HCalls Try.prog fn_alloc_Alloc_List #[.pointer c1] vh130 fun r128 vh131 =>
                            ∃ c199 : Sl, r128 = .slice c199.base c199.len c199.cap ∧
                            HCalls Try.prog fn_scarpref9_Alloc_List #[.pointer c3] vh131 fun r129 vh132 =>
                            ∃ c200 : Sl, r129 = .slice c200.base c200.len c200.cap ∧
                            HCalls Try.prog fn_scarpalike_Ints #[.slice c199.base c199.len c199.cap, .slice c200.base c200.len c200.cap] vh132 fun r130 vh133 =>
                            ∃ c201 : Bool, r130 = .bool c201 ∧
                            IfB (!c201) (R (.bool false) vh133)
                            (∃ c202 : Int, hcell vh133 ((nw vh4).add 1) = some (.int .i64 c202) ∧
                              HCalls Try.prog fn_alloc_Alloc_Wear #[.pointer c1, .int .i64 c202] vh133 fun r131 vh134 =>
                              ∃ c203 : Int, r131 = .int .i64 c203 ∧
                              IfB (c203 != (0 : Int)) (R (.bool false) vh134)
                              (∃ n2, n2 < n1 ∧ vI (iAdd .i64 i (1 : Int)) n2 vh134))))))
                    (IfB (!true) (R (.bool false) vh6)
                      (HCalls Try.prog fn_alloc_Alloc_Count #[.pointer c1] vh6 fun r132 vh135 =>
                        ∃ c204 : Int, r132 = .int .i64 c204 ∧
                        HCalls Try.prog fn_scarpref9_Alloc_Count #[.pointer c3] vh135 fun r133 vh136 =>
                        ∃ c205 : Int, r133 = .int .i64 c205 ∧
                        IfB (c204 != c205) (R (.bool false) vh136)
                        (HCalls Try.prog fn_alloc_Alloc_List #[.pointer c1] vh136 fun r134 vh137 =>
                          ∃ c206 : Sl, r134 = .slice c206.base c206.len c206.cap ∧
                          HCalls Try.prog fn_scarpref9_Alloc_List #[.pointer c3] vh137 fun r135 vh138 =>
                          ∃ c207 : Sl, r135 = .slice c207.base c207.len c207.cap ∧
                          HCalls Try.prog fn_scarpalike_Ints #[.slice c206.base c206.len c206.cap, .slice c207.base c207.len c207.cap] vh138 fun r136 vh139 =>
                          ∃ c208 : Bool, r136 = .bool c208 ∧
                          IfB (!c208) (R (.bool false) vh139)
                          (∃ c209 : Int, hcell vh139 ((nw vh4).add 1) = some (.int .i64 c209) ∧
                            HCalls Try.prog fn_alloc_Alloc_Wear #[.pointer c1, .int .i64 c209] vh139 fun r137 vh140 =>
                            ∃ c210 : Int, r137 = .int .i64 c210 ∧
                            IfB (c210 != (0 : Int)) (R (.bool false) vh140)
                            (∃ n2, n2 < n1 ∧ vI (iAdd .i64 i (1 : Int)) n2 vh140))))))))))
          (HCalls Try.prog fn_scarplaw10_awake #[] vh4 fun r138 vh141 =>
            ∃ c211 : Bool, r138 = .bool c211 ∧
            R (.bool c211) vh141)))))
theorem scarplaw10_AllocPlays_vc {zones : Int} {spare : Int} {l : Sl} {h : Hp} {R : Value → Hp → Prop} (H : vcscarplaw10_AllocPlays zones spare l h R) : HCalls Try.prog fn_scarplaw10_AllocPlays #[.int .i64 zones, .int .i64 spare, .slice l.base l.len l.cap] h R :=
  vc_fn (annOfL [(0, [(11, .int .i64)])] [] [21, 23]) Try.func5 [.int .i64 zones, .int .i64 spare, .slice l.base l.len l.cap] (by kernel_rfl) (V := vcscarplaw10_AllocPlays zones spare l h R) (by kernel_rfl) H

end Go.Proofs.Ytmnkafplmbngnaa
