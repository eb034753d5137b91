/-
  Conditions of functions, printed by a program of ours; the kernel checks each against vcFunc.
-/
import Derived.Test.YtmnkafplmbngnaaRows
import Derived.Test.YtmnkafplmbngnaaVc5
namespace Go.Proofs.Ytmnkafplmbngnaa
set_option maxRecDepth 100000
set_option linter.unusedVariables false

abbrev fn_alloc_Alloc_Count : Nat := 13
abbrev fn_alloc_Alloc_Free : Nat := 12
abbrev fn_alloc_Alloc_List : Nat := 22
abbrev fn_alloc_Alloc_Mark : Nat := 18
abbrev fn_alloc_Alloc_Take : Nat := 10
abbrev fn_alloc_Alloc_Wear : Nat := 14
abbrev fn_alloc_Alloc_at : Nat := 24
abbrev fn_alloc_New : Nat := 9
abbrev fn_scarpalike_Ints : Nat := 21
abbrev fn_scarpalike_Round : Nat := 11
abbrev fn_scarplaw10_AllocEven : Nat := 4
abbrev fn_scarplaw10_AllocMarks : Nat := 6
abbrev fn_scarplaw10_AllocNothing : Nat := 7
abbrev fn_scarplaw10_AllocOnce : Nat := 3
abbrev fn_scarplaw10_AllocPlays : Nat := 5
abbrev fn_scarplaw10_awake : Nat := 8
abbrev fn_scarpref9_Alloc_Count : Nat := 20
abbrev fn_scarpref9_Alloc_Free : Nat := 17
abbrev fn_scarpref9_Alloc_List : Nat := 23
abbrev fn_scarpref9_Alloc_Mark : Nat := 19
abbrev fn_scarpref9_Alloc_Take : Nat := 16
abbrev fn_scarpref9_NewAlloc : Nat := 15

def vcscarplaw10_AllocEven (zones : Int) (turns : Int) (h : Hp) (R : Value → Hp → Prop) : Prop :=
  IfB (decide (zones < (1 : Int))) (HCalls Try.prog fn_scarplaw10_awake #[] h fun r vh =>
    ∃ c : Bool, r = .bool c ∧
    R (.bool c) vh)
  (IfB (decide (zones > (64 : Int))) (HCalls Try.prog fn_scarplaw10_awake #[] h fun r1 vh1 =>
      ∃ c1 : Bool, r1 = .bool c1 ∧
      R (.bool c1) vh1)
    (IfB (decide (turns < (0 : Int))) (HCalls Try.prog fn_scarplaw10_awake #[] h fun r2 vh2 =>
        ∃ c2 : Bool, r2 = .bool c2 ∧
        R (.bool c2) vh2)
      (IfB (decide (turns > (300 : Int))) (HCalls Try.prog fn_scarplaw10_awake #[] h fun r3 vh3 =>
          ∃ c3 : Bool, r3 = .bool c3 ∧
          R (.bool c3) vh3)
        (HCalls Try.prog fn_alloc_New #[.int .i64 zones, .int .i64 (0 : Int)] h fun r4 vh4 =>
          ∃ c4 : Option Addr, ∃ c5 : Int, r4 = .tuple #[.pointer c4, .int .i64 c5] ∧
          IfB (c5 != (0 : Int)) (R (.bool false) vh4)
          (IfB (isNone? c4) (R (.bool false) vh4)
            (∃ (vI : Int → Nat → Hp → Prop) (n : Nat), vI (0 : Int) n vh4 ∧
              ∀ _junk : Nat → Value, ∀ i : Int, ∀ (n1 : Nat) (vh5 : Hp), vI i n1 vh5 →
              IfB (decide (i < turns)) (HCalls Try.prog fn_alloc_Alloc_Take #[.pointer c4, .bool false] vh5 fun r5 vh6 =>
                ∃ c6 : Int, ∃ c7 : Int, r5 = .tuple #[.int .i64 c6, .int .i64 c7] ∧
                IfB (c7 != (0 : Int)) (R (.bool false) vh6)
                (zones ≠ 0 ∧
                  IfB (c6 != (iRem i zones)) (R (.bool false) vh6)
                  (HCalls Try.prog fn_alloc_Alloc_Free #[.pointer c4, .int .i64 c6] vh6 fun r6 vh7 =>
                    ∃ c8 : Int, r6 = .int .i64 c8 ∧
                    IfB (c8 != (0 : Int)) (R (.bool false) vh7)
                    (∃ n2, n2 < n1 ∧ vI (iAdd .i64 i (1 : Int)) n2 vh7))))
              (∃ (vI1 : Int → Nat → Hp → Prop) (n3 : Nat), vI1 (0 : Int) n3 vh5 ∧
                ∀ _junk : Nat → Value, ∀ i1 : Int, ∀ (n4 : Nat) (vh8 : Hp), vI1 i1 n4 vh8 →
                IfB (decide (i1 < zones)) (HCalls Try.prog fn_alloc_Alloc_Wear #[.pointer c4, .int .i64 i1] vh8 fun r7 vh9 =>
                  ∃ c9 : Int, r7 = .int .i64 c9 ∧
                  zones ≠ 0 ∧
                  IfB (c9 != (iQuo .i64 turns zones)) (zones ≠ 0 ∧
                    IfB (c9 != (iAdd .i64 (iQuo .i64 turns zones) (1 : Int))) (R (.bool false) vh9)
                    (∃ n5, n5 < n4 ∧ vI1 (iAdd .i64 i1 (1 : Int)) n5 vh9))
                  (∃ n5, n5 < n4 ∧ vI1 (iAdd .i64 i1 (1 : Int)) n5 vh9))
                (HCalls Try.prog fn_scarplaw10_awake #[] vh8 fun r8 vh10 =>
                  ∃ c10 : Bool, r8 = .bool c10 ∧
                  R (.bool c10) vh10))))))))
theorem scarplaw10_AllocEven_vc {zones : Int} {turns : Int} {h : Hp} {R : Value → Hp → Prop} (H : vcscarplaw10_AllocEven zones turns h R) : HCalls Try.prog fn_scarplaw10_AllocEven #[.int .i64 zones, .int .i64 turns] h R :=
  vc_fn (annOf [(0, [(7, .int .i64)]), (1, [(10, .int .i64)])] []) Try.func4 [.int .i64 zones, .int .i64 turns] (by kernel_rfl) (V := vcscarplaw10_AllocEven zones turns h R) (by kernel_rfl) H

def vcscarplaw10_AllocMarks (zones : Int) (marks : Sl) (h : Hp) (R : Value → Hp → Prop) : Prop :=
  IfB (decide (zones < (1 : Int))) (HCalls Try.prog fn_scarplaw10_awake #[] h fun r vh =>
    ∃ c : Bool, r = .bool c ∧
    R (.bool c) vh)
  (IfB (decide (zones > (64 : Int))) (HCalls Try.prog fn_scarplaw10_awake #[] h fun r1 vh1 =>
      ∃ c1 : Bool, r1 = .bool c1 ∧
      R (.bool c1) vh1)
    (IfB (decide ((marks.len : Int) > (100 : Int))) (HCalls Try.prog fn_scarplaw10_awake #[] h fun r2 vh2 =>
        ∃ c2 : Bool, r2 = .bool c2 ∧
        R (.bool c2) vh2)
      (HCalls Try.prog fn_alloc_New #[.int .i64 zones, .int .i64 (0 : Int)] h fun r3 vh3 =>
        ∃ c3 : Option Addr, ∃ c4 : Int, r3 = .tuple #[.pointer c3, .int .i64 c4] ∧
        IfB (c4 != (0 : Int)) (R (.bool false) vh3)
        (IfB (isNone? c3) (R (.bool false) vh3)
          (MkC 4 1 #[.bool false] zones zones vh3 fun s vh4 =>
            ∃ (vI : Int → Int → Nat → Hp → Prop) (n : Nat), vI zones (0 : Int) n vh4 ∧
            ∀ _junk : Nat → Value, ∀ n3 : Int, ∀ i : Int, ∀ (n1 : Nat) (vh5 : Hp), vI n3 i n1 vh5 →
            IfB (decide (i < (marks.len : Int))) (∃ a : Addr, marks.base = some a ∧ 0 ≤ i ∧ i < (marks.len : Int) ∧
              ∃ c5 : Int, hcell vh5 (a.add ((i).toNat * 1)) = some (.int .i64 c5) ∧
              HCalls Try.prog fn_alloc_Alloc_Mark #[.pointer c3, .int .i64 c5] vh5 fun r4 vh6 =>
              ∃ c6 : Int, r4 = .int .i64 c6 ∧
              IfB (decide (c5 < (0 : Int))) (IfB (c6 != (1 : Int)) (R (.bool false) vh6)
                (∃ n2, n2 < n1 ∧ vI n3 (iAdd .i64 i (1 : Int)) n2 vh6))
              (IfB (decide (c5 ≥ zones)) (IfB (c6 != (1 : Int)) (R (.bool false) vh6)
                  (∃ n2, n2 < n1 ∧ vI n3 (iAdd .i64 i (1 : Int)) n2 vh6))
                (∃ a1 : Addr, s.base = some a1 ∧ 0 ≤ c5 ∧ c5 < (s.len : Int) ∧
                  ∃ c7 : Bool, hcell vh6 (a1.add ((c5).toNat * 1)) = some (.bool c7) ∧
                  IfB c7 (IfB (c6 != (14 : Int)) (R (.bool false) vh6)
                    (∃ n2, n2 < n1 ∧ vI n3 (iAdd .i64 i (1 : Int)) n2 vh6))
                  (IfB (c6 != (0 : Int)) (R (.bool false) vh6)
                    (∃ a2 : Addr, s.base = some a2 ∧ 0 ≤ c5 ∧ c5 < (s.len : Int) ∧
                      StOk vh6 (a2.add ((c5).toNat * 1)) ∧
                      let vh7 := hset vh6 (a2.add ((c5).toNat * 1)) (.bool true);
                      ∃ n2, n2 < n1 ∧ vI (iSub .i64 n3 (1 : Int)) (iAdd .i64 i (1 : Int)) n2 vh7)))))
            (∃ (vI1 : Int → Nat → Hp → Prop) (n4 : Nat), vI1 (0 : Int) n4 vh5 ∧
              ∀ _junk : Nat → Value, ∀ i1 : Int, ∀ (n5 : Nat) (vh8 : Hp), vI1 i1 n5 vh8 →
              IfB (decide (i1 < n3)) (HCalls Try.prog fn_alloc_Alloc_Take #[.pointer c3, .bool false] vh8 fun r5 vh9 =>
                ∃ c8 : Int, ∃ c9 : Int, r5 = .tuple #[.int .i64 c8, .int .i64 c9] ∧
                IfB (c9 != (0 : Int)) (R (.bool false) vh9)
                (IfB (decide (c8 < (0 : Int))) (R (.bool false) vh9)
                  (IfB (decide (c8 ≥ zones)) (R (.bool false) vh9)
                    (∃ a3 : Addr, s.base = some a3 ∧ 0 ≤ c8 ∧ c8 < (s.len : Int) ∧
                      ∃ c10 : Bool, hcell vh9 (a3.add ((c8).toNat * 1)) = some (.bool c10) ∧
                      IfB c10 (R (.bool false) vh9)
                      (∃ a4 : Addr, s.base = some a4 ∧ 0 ≤ c8 ∧ c8 < (s.len : Int) ∧
                        StOk vh9 (a4.add ((c8).toNat * 1)) ∧
                        let vh10 := hset vh9 (a4.add ((c8).toNat * 1)) (.bool true);
                        ∃ n6, n6 < n5 ∧ vI1 (iAdd .i64 i1 (1 : Int)) n6 vh10)))))
              (HCalls Try.prog fn_alloc_Alloc_Take #[.pointer c3, .bool true] vh8 fun r6 vh11 =>
                ∃ c11 : Int, ∃ c12 : Int, r6 = .tuple #[.int .i64 c11, .int .i64 c12] ∧
                IfB (c12 != (9 : Int)) (R (.bool false) vh11)
                (HCalls Try.prog fn_alloc_Alloc_Count #[.pointer c3] vh11 fun r7 vh12 =>
                  ∃ c13 : Int, r7 = .int .i64 c13 ∧
                  IfB (c13 != (0 : Int)) (R (.bool false) vh12)
                  (HCalls Try.prog fn_alloc_Alloc_List #[.pointer c3] vh12 fun r8 vh13 =>
                    ∃ c14 : Sl, r8 = .slice c14.base c14.len c14.cap ∧
                    IfB ((c14.len : Int) != (0 : Int)) (R (.bool false) vh13)
                    (∃ (vI2 : Int → Nat → Hp → Prop) (n7 : Nat), vI2 (0 : Int) n7 vh13 ∧
                      ∀ _junk : Nat → Value, ∀ i2 : Int, ∀ (n8 : Nat) (vh14 : Hp), vI2 i2 n8 vh14 →
                      IfB (decide (i2 < zones)) (HCalls Try.prog fn_alloc_Alloc_Free #[.pointer c3, .int .i64 i2] vh14 fun r9 vh15 =>
                        ∃ c15 : Int, r9 = .int .i64 c15 ∧
                        IfB (c15 != (0 : Int)) (R (.bool false) vh15)
                        (HCalls Try.prog fn_alloc_Alloc_Wear #[.pointer c3, .int .i64 i2] vh15 fun r10 vh16 =>
                          ∃ c16 : Int, r10 = .int .i64 c16 ∧
                          IfB (c16 != (1 : Int)) (R (.bool false) vh16)
                          (∃ n9, n9 < n8 ∧ vI2 (iAdd .i64 i2 (1 : Int)) n9 vh16)))
                      (HCalls Try.prog fn_alloc_Alloc_Count #[.pointer c3] vh14 fun r11 vh17 =>
                        ∃ c17 : Int, r11 = .int .i64 c17 ∧
                        IfB (c17 == zones) (HCalls Try.prog fn_scarplaw10_awake #[] vh17 fun r12 vh18 =>
                          ∃ c18 : Bool, r12 = .bool c18 ∧
                          R (.bool c18) vh18)
                        (R (.bool false) vh17))))))))))))
theorem scarplaw10_AllocMarks_vc {zones : Int} {marks : Sl} {h : Hp} {R : Value → Hp → Prop} (H : vcscarplaw10_AllocMarks zones marks h R) : HCalls Try.prog fn_scarplaw10_AllocMarks #[.int .i64 zones, .slice marks.base marks.len marks.cap] h R :=
  vc_fn (annOf [(0, [(8, .int .i64), (9, .int .i64)]), (1, [(12, .int .i64)]), (2, [(17, .int .i64)])] []) Try.func6 [.int .i64 zones, .slice marks.base marks.len marks.cap] (by kernel_rfl) (V := vcscarplaw10_AllocMarks zones marks h R) (by kernel_rfl) H

def vcscarplaw10_AllocNothing (zones : Int) (spare : Int) (k : Int) (h : Hp) (R : Value → Hp → Prop) : Prop :=
  HCalls Try.prog fn_alloc_Alloc_Take #[.pointer none, .bool true] h fun r vh =>
  ∃ c : Int, ∃ c1 : Int, r = .tuple #[.int .i64 c, .int .i64 c1] ∧
  HCalls Try.prog fn_alloc_New #[.int .i64 zones, .int .i64 spare] vh fun r1 vh1 =>
  ∃ c2 : Option Addr, ∃ c3 : Int, r1 = .tuple #[.pointer c2, .int .i64 c3] ∧
  IfB (decide (zones ≥ (1 : Int))) (IfB (decide (zones ≤ (64 : Int))) (IfB (decide (spare ≥ (0 : Int))) (IfB (c1 == (9 : Int)) (HCalls Try.prog fn_alloc_Alloc_Free #[.pointer none, .int .i64 k] vh1 fun r2 vh2 =>
          ∃ c4 : Int, r2 = .int .i64 c4 ∧
          IfB (c4 == (1 : Int)) (HCalls Try.prog fn_alloc_Alloc_Mark #[.pointer none, .int .i64 k] vh2 fun r3 vh3 =>
            ∃ c5 : Int, r3 = .int .i64 c5 ∧
            IfB (c5 == (1 : Int)) (HCalls Try.prog fn_alloc_Alloc_Count #[.pointer none] vh3 fun r4 vh4 =>
              ∃ c6 : Int, r4 = .int .i64 c6 ∧
              IfB (c6 == (0 : Int)) (HCalls Try.prog fn_alloc_Alloc_Wear #[.pointer none, .int .i64 k] vh4 fun r5 vh5 =>
                ∃ c7 : Int, r5 = .int .i64 c7 ∧
                IfB (c7 == (0 : Int)) (HCalls Try.prog fn_alloc_Alloc_List #[.pointer none] vh5 fun r6 vh6 =>
                  ∃ c8 : Sl, r6 = .slice c8.base c8.len c8.cap ∧
                  IfB ((c8.len : Int) == (0 : Int)) (IfB ((c3 == (0 : Int)) == (decide (spare ≤ zones))) (IfB ((!isNone? c2) == (decide (spare ≤ zones))) (IfB (decide (spare ≤ zones)) (HCalls Try.prog fn_scarplaw10_awake #[] vh6 fun r7 vh7 =>
                          ∃ c9 : Bool, r7 = .bool c9 ∧
                          R (.bool c9) vh7)
                        (IfB (c3 == (1 : Int)) (HCalls Try.prog fn_scarplaw10_awake #[] vh6 fun r8 vh8 =>
                            ∃ c10 : Bool, r8 = .bool c10 ∧
                            R (.bool c10) vh8)
                          (R (.bool false) vh6)))
                      (R (.bool false) vh6))
                    (R (.bool false) vh6))
                  (R (.bool false) vh6))
                (R (.bool false) vh5))
              (R (.bool false) vh4))
            (R (.bool false) vh3))
          (R (.bool false) vh2))
        (R (.bool false) vh1))
      (IfB (c1 == (9 : Int)) (HCalls Try.prog fn_alloc_Alloc_Free #[.pointer none, .int .i64 k] vh1 fun r9 vh9 =>
          ∃ c11 : Int, r9 = .int .i64 c11 ∧
          IfB (c11 == (1 : Int)) (HCalls Try.prog fn_alloc_Alloc_Mark #[.pointer none, .int .i64 k] vh9 fun r10 vh10 =>
            ∃ c12 : Int, r10 = .int .i64 c12 ∧
            IfB (c12 == (1 : Int)) (HCalls Try.prog fn_alloc_Alloc_Count #[.pointer none] vh10 fun r11 vh11 =>
              ∃ c13 : Int, r11 = .int .i64 c13 ∧
              IfB (c13 == (0 : Int)) (HCalls Try.prog fn_alloc_Alloc_Wear #[.pointer none, .int .i64 k] vh11 fun r12 vh12 =>
                ∃ c14 : Int, r12 = .int .i64 c14 ∧
                IfB (c14 == (0 : Int)) (HCalls Try.prog fn_alloc_Alloc_List #[.pointer none] vh12 fun r13 vh13 =>
                  ∃ c15 : Sl, r13 = .slice c15.base c15.len c15.cap ∧
                  IfB ((c15.len : Int) == (0 : Int)) (IfB ((c3 == (0 : Int)) == false) (IfB ((!isNone? c2) == false) (IfB (c3 == (1 : Int)) (HCalls Try.prog fn_scarplaw10_awake #[] vh13 fun r14 vh14 =>
                          ∃ c16 : Bool, r14 = .bool c16 ∧
                          R (.bool c16) vh14)
                        (R (.bool false) vh13))
                      (R (.bool false) vh13))
                    (R (.bool false) vh13))
                  (R (.bool false) vh13))
                (R (.bool false) vh12))
              (R (.bool false) vh11))
            (R (.bool false) vh10))
          (R (.bool false) vh9))
        (R (.bool false) vh1)))
    (IfB (c1 == (9 : Int)) (HCalls Try.prog fn_alloc_Alloc_Free #[.pointer none, .int .i64 k] vh1 fun r15 vh15 =>
        ∃ c17 : Int, r15 = .int .i64 c17 ∧
        IfB (c17 == (1 : Int)) (HCalls Try.prog fn_alloc_Alloc_Mark #[.pointer none, .int .i64 k] vh15 fun r16 vh16 =>
          ∃ c18 : Int, r16 = .int .i64 c18 ∧
          IfB (c18 == (1 : Int)) (HCalls Try.prog fn_alloc_Alloc_Count #[.pointer none] vh16 fun r17 vh17 =>
            ∃ c19 : Int, r17 = .int .i64 c19 ∧
            IfB (c19 == (0 : Int)) (HCalls Try.prog fn_alloc_Alloc_Wear #[.pointer none, .int .i64 k] vh17 fun r18 vh18 =>
              ∃ c20 : Int, r18 = .int .i64 c20 ∧
              IfB (c20 == (0 : Int)) (HCalls Try.prog fn_alloc_Alloc_List #[.pointer none] vh18 fun r19 vh19 =>
                ∃ c21 : Sl, r19 = .slice c21.base c21.len c21.cap ∧
                IfB ((c21.len : Int) == (0 : Int)) (IfB ((c3 == (0 : Int)) == false) (IfB ((!isNone? c2) == false) (IfB (c3 == (1 : Int)) (HCalls Try.prog fn_scarplaw10_awake #[] vh19 fun r20 vh20 =>
                        ∃ c22 : Bool, r20 = .bool c22 ∧
                        R (.bool c22) vh20)
                      (R (.bool false) vh19))
                    (R (.bool false) vh19))
                  (R (.bool false) vh19))
                (R (.bool false) vh19))
              (R (.bool false) vh18))
            (R (.bool false) vh17))
          (R (.bool false) vh16))
        (R (.bool false) vh15))
      (R (.bool false) vh1)))
  (IfB (c1 == (9 : Int)) (HCalls Try.prog fn_alloc_Alloc_Free #[.pointer none, .int .i64 k] vh1 fun r21 vh21 =>
      ∃ c23 : Int, r21 = .int .i64 c23 ∧
      IfB (c23 == (1 : Int)) (HCalls Try.prog fn_alloc_Alloc_Mark #[.pointer none, .int .i64 k] vh21 fun r22 vh22 =>
        ∃ c24 : Int, r22 = .int .i64 c24 ∧
        IfB (c24 == (1 : Int)) (HCalls Try.prog fn_alloc_Alloc_Count #[.pointer none] vh22 fun r23 vh23 =>
          ∃ c25 : Int, r23 = .int .i64 c25 ∧
          IfB (c25 == (0 : Int)) (HCalls Try.prog fn_alloc_Alloc_Wear #[.pointer none, .int .i64 k] vh23 fun r24 vh24 =>
            ∃ c26 : Int, r24 = .int .i64 c26 ∧
            IfB (c26 == (0 : Int)) (HCalls Try.prog fn_alloc_Alloc_List #[.pointer none] vh24 fun r25 vh25 =>
              ∃ c27 : Sl, r25 = .slice c27.base c27.len c27.cap ∧
              IfB ((c27.len : Int) == (0 : Int)) (IfB ((c3 == (0 : Int)) == false) (IfB ((!isNone? c2) == false) (IfB (c3 == (1 : Int)) (HCalls Try.prog fn_scarplaw10_awake #[] vh25 fun r26 vh26 =>
                      ∃ c28 : Bool, r26 = .bool c28 ∧
                      R (.bool c28) vh26)
                    (R (.bool false) vh25))
                  (R (.bool false) vh25))
                (R (.bool false) vh25))
              (R (.bool false) vh25))
            (R (.bool false) vh24))
          (R (.bool false) vh23))
        (R (.bool false) vh22))
      (R (.bool false) vh21))
    (R (.bool false) vh1))
theorem scarplaw10_AllocNothing_vc {zones : Int} {spare : Int} {k : Int} {h : Hp} {R : Value → Hp → Prop} (H : vcscarplaw10_AllocNothing zones spare k h R) : HCalls Try.prog fn_scarplaw10_AllocNothing #[.int .i64 zones, .int .i64 spare, .int .i64 k] h R :=
  vc_fn (annOf [] []) Try.func7 [.int .i64 zones, .int .i64 spare, .int .i64 k] (by kernel_rfl) (V := vcscarplaw10_AllocNothing zones spare k h R) (by kernel_rfl) H

def vcscarplaw10_awake (h : Hp) (R : Value → Hp → Prop) : Prop :=
  HCalls Try.prog fn_alloc_New #[.int .i64 (2 : Int), .int .i64 (1 : Int)] h fun r vh =>
  ∃ c : Option Addr, ∃ c1 : Int, r = .tuple #[.pointer c, .int .i64 c1] ∧
  IfB (c1 != (0 : Int)) (R (.bool false) vh)
  (IfB (isNone? c) (R (.bool false) vh)
    (HCalls Try.prog fn_alloc_Alloc_Take #[.pointer c, .bool false] vh fun r1 vh1 =>
      ∃ c2 : Int, ∃ c3 : Int, r1 = .tuple #[.int .i64 c2, .int .i64 c3] ∧
      HCalls Try.prog fn_alloc_Alloc_Take #[.pointer c, .bool false] vh1 fun r2 vh2 =>
      ∃ c4 : Int, ∃ c5 : Int, r2 = .tuple #[.int .i64 c4, .int .i64 c5] ∧
      HCalls Try.prog fn_alloc_Alloc_Take #[.pointer c, .bool true] vh2 fun r3 vh3 =>
      ∃ c6 : Int, ∃ c7 : Int, r3 = .tuple #[.int .i64 c6, .int .i64 c7] ∧
      IfB (c3 == (0 : Int)) (IfB (c2 == (0 : Int)) (IfB (c5 == (9 : Int)) (IfB (c7 == (0 : Int)) (R (.bool (c6 == (1 : Int))) vh3)
            (R (.bool false) vh3))
          (R (.bool false) vh3))
        (R (.bool false) vh3))
      (R (.bool false) vh3)))
theorem scarplaw10_awake_vc {h : Hp} {R : Value → Hp → Prop} (H : vcscarplaw10_awake h R) : HCalls Try.prog fn_scarplaw10_awake #[] h R :=
  vc_fn (annOf [] []) Try.func8 [] (by kernel_rfl) (V := vcscarplaw10_awake h R) (by kernel_rfl) H

def vcalloc_New (zones : Int) (spare : Int) (h : Hp) (R : Value → Hp → Prop) : Prop :=
  IfB (decide (zones < (1 : Int))) (R (.tuple #[.pointer none, .int .i64 (1 : Int)]) h)
  (IfB (decide (zones > (64 : Int))) (R (.tuple #[.pointer none, .int .i64 (1 : Int)]) h)
    (IfB (decide (spare < (0 : Int))) (R (.tuple #[.pointer none, .int .i64 (1 : Int)]) h)
      (IfB (decide (spare > zones)) (R (.tuple #[.pointer none, .int .i64 (1 : Int)]) h)
        (MkC 55 16 #[.bool false, .int .i64 (0 : Int)] zones zones h fun s vh =>
          let vh1 := alc vh [.slice s.base s.len s.cap, .int .i64 spare] 53;
          R (.tuple #[.pointer (some (nw vh)), .int .i64 (0 : Int)]) vh1))))
theorem alloc_New_vc {zones : Int} {spare : Int} {h : Hp} {R : Value → Hp → Prop} (H : vcalloc_New zones spare h R) : HCalls Try.prog fn_alloc_New #[.int .i64 zones, .int .i64 spare] h R :=
  vc_fn (annOf [] []) Try.func9 [.int .i64 zones, .int .i64 spare] (by kernel_rfl) (V := vcalloc_New zones spare h R) (by kernel_rfl) H

def vcalloc_Alloc_Take (a : Option Addr) (reserve : Bool) (h : Hp) (R : Value → Hp → Prop) : Prop :=
  HCalls Try.prog fn_alloc_Alloc_Count #[.pointer a] h fun r vh =>
  ∃ c : Int, r = .int .i64 c ∧
  Ext h vh ∧
  IfB (c == (0 : Int)) (R (.tuple #[.int .i64 (0 : Int), .int .i64 (9 : Int)]) vh)
  (IfB (!reserve) (∃ a1 : Addr, a = some a1 ∧
      ∃ c1 : Int, hcell h (a1.add 1) = some (.int .i64 c1) ∧
      HCalls Try.prog fn_alloc_Alloc_Count #[.pointer a] vh fun r1 vh1 =>
      ∃ c2 : Int, r1 = .int .i64 c2 ∧
      Ext h vh1 ∧
      IfB (decide (c2 ≤ c1)) (R (.tuple #[.int .i64 (0 : Int), .int .i64 (9 : Int)]) vh1)
      (∃ a2 : Addr, a = some a2 ∧
        ∃ c3 : Sl, hcell vh1 a2 = some (.slice c3.base c3.len c3.cap) ∧
        ∃ (vI : Int → Int → Nat → Hp → Prop) (n : Nat), vI (-1 : Int) (0 : Int) n vh1 ∧
        ∀ _junk : Nat → Value, ∀ best : Int, ∀ t30 : Int, ∀ (n1 : Nat) (vh2 : Hp), vI best t30 n1 vh2 →
        IfB (decide (t30 < (c3.len : Int))) (∃ a3 : Addr, c3.base = some a3 ∧ 0 ≤ t30 ∧ t30 < (c3.len : Int) ∧
          ∃ c4 : Bool, ∃ c5 : Int, hcell vh2 ((a3.add ((t30).toNat * 2))) = some (.bool c4) ∧ hcell vh2 ((a3.add ((t30).toNat * 2)).add 1) = some (.int .i64 c5) ∧
          let vh3 := alc vh2 [.bool false, .int .i64 (0 : Int)] 55;
          stCells (nw vh2) 0 [.bool c4, .int .i64 c5] vh3 fun vh4 =>
          ∃ c6 : Bool, hcell vh4 (nw vh2) = some (.bool c6) ∧
          IfB c6 (∃ n2, n2 < n1 ∧ vI best (iAdd .i64 t30 (1 : Int)) n2 vh4)
          (IfB (decide (best ≥ (0 : Int))) (∃ c7 : Int, hcell vh4 ((nw vh2).add 1) = some (.int .i64 c7) ∧
              ∃ a4 : Addr, a = some a4 ∧
              ∃ c8 : Sl, hcell vh4 a4 = some (.slice c8.base c8.len c8.cap) ∧
              ∃ a5 : Addr, c8.base = some a5 ∧ 0 ≤ best ∧ best < (c8.len : Int) ∧
              ∃ c9 : Int, hcell vh4 ((a5.add ((best).toNat * 2)).add 1) = some (.int .i64 c9) ∧
              IfB (decide (c7 ≥ c9)) (∃ n2, n2 < n1 ∧ vI best (iAdd .i64 t30 (1 : Int)) n2 vh4)
              (∃ n2, n2 < n1 ∧ vI t30 (iAdd .i64 t30 (1 : Int)) n2 vh4))
            (∃ n2, n2 < n1 ∧ vI t30 (iAdd .i64 t30 (1 : Int)) n2 vh4)))
        (∃ a6 : Addr, a = some a6 ∧
          ∃ c10 : Sl, hcell vh2 a6 = some (.slice c10.base c10.len c10.cap) ∧
          ∃ a7 : Addr, c10.base = some a7 ∧ 0 ≤ best ∧ best < (c10.len : Int) ∧
          StOk vh2 (a7.add ((best).toNat * 2)) ∧
          let vh5 := hset vh2 (a7.add ((best).toNat * 2)) (.bool true);
          R (.tuple #[.int .i64 best, .int .i64 (0 : Int)]) vh5)))
    (∃ a8 : Addr, a = some a8 ∧
      ∃ c11 : Sl, hcell vh a8 = some (.slice c11.base c11.len c11.cap) ∧
      ∃ (vI1 : Int → Int → Nat → Hp → Prop) (n3 : Nat), vI1 (-1 : Int) (0 : Int) n3 vh ∧
      ∀ _junk : Nat → Value, ∀ best1 : Int, ∀ t301 : Int, ∀ (n4 : Nat) (vh6 : Hp), vI1 best1 t301 n4 vh6 →
      IfB (decide (t301 < (c11.len : Int))) (∃ a9 : Addr, c11.base = some a9 ∧ 0 ≤ t301 ∧ t301 < (c11.len : Int) ∧
        ∃ c12 : Bool, ∃ c13 : Int, hcell vh6 ((a9.add ((t301).toNat * 2))) = some (.bool c12) ∧ hcell vh6 ((a9.add ((t301).toNat * 2)).add 1) = some (.int .i64 c13) ∧
        let vh7 := alc vh6 [.bool false, .int .i64 (0 : Int)] 55;
        stCells (nw vh6) 0 [.bool c12, .int .i64 c13] vh7 fun vh8 =>
        ∃ c14 : Bool, hcell vh8 (nw vh6) = some (.bool c14) ∧
        IfB c14 (∃ n5, n5 < n4 ∧ vI1 best1 (iAdd .i64 t301 (1 : Int)) n5 vh8)
        (IfB (decide (best1 ≥ (0 : Int))) (∃ c15 : Int, hcell vh8 ((nw vh6).add 1) = some (.int .i64 c15) ∧
            ∃ a10 : Addr, a = some a10 ∧
            ∃ c16 : Sl, hcell vh8 a10 = some (.slice c16.base c16.len c16.cap) ∧
            ∃ a11 : Addr, c16.base = some a11 ∧ 0 ≤ best1 ∧ best1 < (c16.len : Int) ∧
            ∃ c17 : Int, hcell vh8 ((a11.add ((best1).toNat * 2)).add 1) = some (.int .i64 c17) ∧
            IfB (decide (c15 ≥ c17)) (∃ n5, n5 < n4 ∧ vI1 best1 (iAdd .i64 t301 (1 : Int)) n5 vh8)
            (∃ n5, n5 < n4 ∧ vI1 t301 (iAdd .i64 t301 (1 : Int)) n5 vh8))
          (∃ n5, n5 < n4 ∧ vI1 t301 (iAdd .i64 t301 (1 : Int)) n5 vh8)))
      (∃ a12 : Addr, a = some a12 ∧
        ∃ c18 : Sl, hcell vh6 a12 = some (.slice c18.base c18.len c18.cap) ∧
        ∃ a13 : Addr, c18.base = some a13 ∧ 0 ≤ best1 ∧ best1 < (c18.len : Int) ∧
        StOk vh6 (a13.add ((best1).toNat * 2)) ∧
        let vh9 := hset vh6 (a13.add ((best1).toNat * 2)) (.bool true);
        R (.tuple #[.int .i64 best1, .int .i64 (0 : Int)]) vh9)))
theorem alloc_Alloc_Take_vc {a : Option Addr} {reserve : Bool} {h : Hp} {R : Value → Hp → Prop} (H : vcalloc_Alloc_Take a reserve h R) : HCalls Try.prog fn_alloc_Alloc_Take #[.pointer a, .bool reserve] h R :=
  vc_fn (annOf [(0, [(6, .int .i64), (30, .int .i64)])] []) Try.func10 [.pointer a, .bool reserve] (by kernel_rfl) (V := vcalloc_Alloc_Take a reserve h R) (by kernel_rfl) H

def vcscarpalike_Round (k : Int) (n : Int) (h : Hp) (R : Value → Hp → Prop) : Prop :=
  n ≠ 0 ∧
  IfB (decide ((iRem k n) < (0 : Int))) (R (.int .i64 (iAdd .i64 (iRem k n) n)) h)
  (R (.int .i64 (iRem k n)) h)
theorem scarpalike_Round_vc {k : Int} {n : Int} {h : Hp} {R : Value → Hp → Prop} (H : vcscarpalike_Round k n h R) : HCalls Try.prog fn_scarpalike_Round #[.int .i64 k, .int .i64 n] h R :=
  vc_fn (annOf [] []) Try.func11 [.int .i64 k, .int .i64 n] (by kernel_rfl) (V := vcscarpalike_Round k n h R) (by kernel_rfl) H

def vcalloc_Alloc_Free (a : Option Addr) (i : Int) (h : Hp) (R : Value → Hp → Prop) : Prop :=
  HCalls Try.prog fn_alloc_Alloc_at #[.pointer a, .int .i64 i] h fun r vh =>
  ∃ c : Option Addr, r = .pointer c ∧
  IfB (isNone? c) (R (.int .i64 (1 : Int)) vh)
  (∃ a1 : Addr, c = some a1 ∧
    ∃ c1 : Bool, hcell vh a1 = some (.bool c1) ∧
    IfB (!c1) (R (.int .i64 (14 : Int)) vh)
    (∃ a2 : Addr, c = some a2 ∧
      StOk vh a2 ∧
      let vh1 := hset vh a2 (.bool false);
      ∃ a3 : Addr, c = some a3 ∧
      ∃ c2 : Int, hcell vh1 (a3.add 1) = some (.int .i64 c2) ∧
      ∃ a4 : Addr, c = some a4 ∧
      StOk vh1 (a4.add 1) ∧
      let vh2 := hset vh1 (a4.add 1) (.int .i64 (iAdd .i64 c2 (1 : Int)));
      R (.int .i64 (0 : Int)) vh2))
theorem alloc_Alloc_Free_vc {a : Option Addr} {i : Int} {h : Hp} {R : Value → Hp → Prop} (H : vcalloc_Alloc_Free a i h R) : HCalls Try.prog fn_alloc_Alloc_Free #[.pointer a, .int .i64 i] h R :=
  vc_fn (annOf [] []) Try.func12 [.pointer a, .int .i64 i] (by kernel_rfl) (V := vcalloc_Alloc_Free a i h R) (by kernel_rfl) H

def vcalloc_Alloc_Count (a : Option Addr) (h : Hp) (R : Value → Hp → Prop) : Prop :=
  HCalls Try.prog fn_alloc_Alloc_List #[.pointer a] h fun r vh =>
  ∃ c : Sl, r = .slice c.base c.len c.cap ∧
  R (.int .i64 (c.len : Int)) vh
theorem alloc_Alloc_Count_vc {a : Option Addr} {h : Hp} {R : Value → Hp → Prop} (H : vcalloc_Alloc_Count a h R) : HCalls Try.prog fn_alloc_Alloc_Count #[.pointer a] h R :=
  vc_fn (annOf [] []) Try.func13 [.pointer a] (by kernel_rfl) (V := vcalloc_Alloc_Count a h R) (by kernel_rfl) H

def vcalloc_Alloc_Wear (a : Option Addr) (i : Int) (h : Hp) (R : Value → Hp → Prop) : Prop :=
  HCalls Try.prog fn_alloc_Alloc_at #[.pointer a, .int .i64 i] h fun r vh =>
  ∃ c : Option Addr, r = .pointer c ∧
  IfB (isNone? c) (R (.int .i64 (0 : Int)) vh)
  (∃ a1 : Addr, c = some a1 ∧
    ∃ c1 : Int, hcell vh (a1.add 1) = some (.int .i64 c1) ∧
    R (.int .i64 c1) vh)
theorem alloc_Alloc_Wear_vc {a : Option Addr} {i : Int} {h : Hp} {R : Value → Hp → Prop} (H : vcalloc_Alloc_Wear a i h R) : HCalls Try.prog fn_alloc_Alloc_Wear #[.pointer a, .int .i64 i] h R :=
  vc_fn (annOf [] []) Try.func14 [.pointer a, .int .i64 i] (by kernel_rfl) (V := vcalloc_Alloc_Wear a i h R) (by kernel_rfl) H

def vcscarpref9_NewAlloc (zones : Int) (spare : Int) (h : Hp) (R : Value → Hp → Prop) : Prop :=
  IfB (decide (zones < (1 : Int))) (R (.tuple #[.pointer none, .int .i64 (1 : Int)]) h)
  (IfB (decide (zones > (64 : Int))) (R (.tuple #[.pointer none, .int .i64 (1 : Int)]) h)
    (IfB (decide (spare < (0 : Int))) (R (.tuple #[.pointer none, .int .i64 (1 : Int)]) h)
      (IfB (decide (spare > zones)) (R (.tuple #[.pointer none, .int .i64 (1 : Int)]) h)
        ((MkC 4 1 #[.bool false] zones zones h fun s vh =>
            Ext h vh ∧
            MkC 3 8 #[.int .i64 (0 : Int)] zones zones vh fun s1 vh1 =>
            Ext h vh1 ∧
            let vh2 := alc vh1 [.slice s.base s.len s.cap, .slice s1.base s1.len s1.cap, .int .i64 spare] 46;
            Ext h vh2 ∧
            ∃ (vI : Int → Nat → Hp → Prop) (n : Nat), vI (0 : Int) n vh2 ∧
            ∀ _junk : Nat → Value, ∀ i : Int, ∀ (n1 : Nat) (vh3 : Hp), vI i n1 vh3 →
            IfB (decide (i < zones)) (∃ a : Addr, (some (nw vh1)) = some a ∧
              ∃ c : Sl, hcell vh3 a = some (.slice c.base c.len c.cap) ∧
              ∃ a1 : Addr, c.base = some a1 ∧ 0 ≤ i ∧ i < (c.len : Int) ∧
              StOk vh3 (a1.add ((i).toNat * 1)) ∧
              let vh4 := hset vh3 (a1.add ((i).toNat * 1)) (.bool true);
              ∃ n2, n2 < n1 ∧ vI (iAdd .i64 i (1 : Int)) n2 vh4)
            (R (.tuple #[.pointer (some (nw vh1)), .int .i64 (0 : Int)]) vh3)) ∧
          (MkC 3 8 #[.int .i64 (0 : Int)] zones zones h fun s2 vh5 =>
            Ext h vh5 ∧
            MkC 4 1 #[.bool false] zones zones vh5 fun s3 vh6 =>
            Ext h vh6 ∧
            let vh7 := alc vh6 [.slice s3.base s3.len s3.cap, .slice s2.base s2.len s2.cap, .int .i64 spare] 46;
            Ext h vh7 ∧
            ∃ (vI1 : Int → Nat → Hp → Prop) (n3 : Nat), vI1 (0 : Int) n3 vh7 ∧
            ∀ _junk : Nat → Value, ∀ i1 : Int, ∀ (n4 : Nat) (vh8 : Hp), vI1 i1 n4 vh8 →
            IfB (decide (i1 < zones)) (∃ a2 : Addr, (some (nw vh6)) = some a2 ∧
              ∃ c1 : Sl, hcell vh8 a2 = some (.slice c1.base c1.len c1.cap) ∧
              ∃ a3 : Addr, c1.base = some a3 ∧ 0 ≤ i1 ∧ i1 < (c1.len : Int) ∧
              StOk vh8 (a3.add ((i1).toNat * 1)) ∧
              let vh9 := hset vh8 (a3.add ((i1).toNat * 1)) (.bool true);
              ∃ n5, n5 < n4 ∧ vI1 (iAdd .i64 i1 (1 : Int)) n5 vh9)
            (R (.tuple #[.pointer (some (nw vh6)), .int .i64 (0 : Int)]) vh8))))))
theorem scarpref9_NewAlloc_vc {zones : Int} {spare : Int} {h : Hp} {R : Value → Hp → Prop} (H : vcscarpref9_NewAlloc zones spare h R) : HCalls Try.prog fn_scarpref9_NewAlloc #[.int .i64 zones, .int .i64 spare] h R :=
  vc_fn (annOf [(0, [(7, .int .i64)])] []) Try.func15 [.int .i64 zones, .int .i64 spare] (by kernel_rfl) (V := vcscarpref9_NewAlloc zones spare h R) (by kernel_rfl) H

def vcscarpref9_Alloc_Take (a : Option Addr) (reserve : Bool) (h : Hp) (R : Value → Hp → Prop) : Prop :=
  HCalls Try.prog fn_scarpref9_Alloc_List #[.pointer a] h fun r vh =>
  ∃ c : Sl, r = .slice c.base c.len c.cap ∧
  IfB ((c.len : Int) == (0 : Int)) (R (.tuple #[.int .i64 (0 : Int), .int .i64 (9 : Int)]) vh)
  (IfB (!reserve) (∃ a1 : Addr, a = some a1 ∧
      ∃ c1 : Int, hcell vh (a1.add 2) = some (.int .i64 c1) ∧
      IfB (decide ((c.len : Int) ≤ c1)) (R (.tuple #[.int .i64 (0 : Int), .int .i64 (9 : Int)]) vh)
      (∃ a2 : Addr, c.base = some a2 ∧ 0 ≤ (0 : Int) ∧ (0 : Int) < (c.len : Int) ∧
        ∃ c2 : Int, hcell vh (a2.add (((0 : Int)).toNat * 1)) = some (.int .i64 c2) ∧
        ∃ (vI : Int → Int → Nat → Hp → Prop) (n : Nat), vI c2 (0 : Int) n vh ∧
        ∀ _junk : Nat → Value, ∀ k : Int, ∀ i : Int, ∀ (n1 : Nat) (vh1 : Hp), vI k i n1 vh1 →
        IfB (decide (i < (c.len : Int))) (∃ a3 : Addr, a = some a3 ∧
          ∃ c3 : Sl, hcell vh1 (a3.add 1) = some (.slice c3.base c3.len c3.cap) ∧
          ∃ a4 : Addr, c.base = some a4 ∧ 0 ≤ i ∧ i < (c.len : Int) ∧
          ∃ c4 : Int, hcell vh1 (a4.add ((i).toNat * 1)) = some (.int .i64 c4) ∧
          ∃ a5 : Addr, c3.base = some a5 ∧ 0 ≤ c4 ∧ c4 < (c3.len : Int) ∧
          ∃ c5 : Int, hcell vh1 (a5.add ((c4).toNat * 1)) = some (.int .i64 c5) ∧
          ∃ a6 : Addr, a = some a6 ∧
          ∃ c6 : Sl, hcell vh1 (a6.add 1) = some (.slice c6.base c6.len c6.cap) ∧
          ∃ a7 : Addr, c6.base = some a7 ∧ 0 ≤ k ∧ k < (c6.len : Int) ∧
          ∃ c7 : Int, hcell vh1 (a7.add ((k).toNat * 1)) = some (.int .i64 c7) ∧
          IfB (decide (c5 < c7)) (∃ a8 : Addr, c.base = some a8 ∧ 0 ≤ i ∧ i < (c.len : Int) ∧
            ∃ c8 : Int, hcell vh1 (a8.add ((i).toNat * 1)) = some (.int .i64 c8) ∧
            ∃ n2, n2 < n1 ∧ vI c8 (iAdd .i64 i (1 : Int)) n2 vh1)
          (∃ n2, n2 < n1 ∧ vI k (iAdd .i64 i (1 : Int)) n2 vh1))
        (∃ a9 : Addr, a = some a9 ∧
          ∃ c9 : Sl, hcell vh1 a9 = some (.slice c9.base c9.len c9.cap) ∧
          ∃ a10 : Addr, c9.base = some a10 ∧ 0 ≤ k ∧ k < (c9.len : Int) ∧
          StOk vh1 (a10.add ((k).toNat * 1)) ∧
          let vh2 := hset vh1 (a10.add ((k).toNat * 1)) (.bool false);
          R (.tuple #[.int .i64 k, .int .i64 (0 : Int)]) vh2)))
    (∃ a11 : Addr, c.base = some a11 ∧ 0 ≤ (0 : Int) ∧ (0 : Int) < (c.len : Int) ∧
      ∃ c10 : Int, hcell vh (a11.add (((0 : Int)).toNat * 1)) = some (.int .i64 c10) ∧
      ∃ (vI1 : Int → Int → Nat → Hp → Prop) (n3 : Nat), vI1 c10 (0 : Int) n3 vh ∧
      ∀ _junk : Nat → Value, ∀ k1 : Int, ∀ i1 : Int, ∀ (n4 : Nat) (vh3 : Hp), vI1 k1 i1 n4 vh3 →
      IfB (decide (i1 < (c.len : Int))) (∃ a12 : Addr, a = some a12 ∧
        ∃ c11 : Sl, hcell vh3 (a12.add 1) = some (.slice c11.base c11.len c11.cap) ∧
        ∃ a13 : Addr, c.base = some a13 ∧ 0 ≤ i1 ∧ i1 < (c.len : Int) ∧
        ∃ c12 : Int, hcell vh3 (a13.add ((i1).toNat * 1)) = some (.int .i64 c12) ∧
        ∃ a14 : Addr, c11.base = some a14 ∧ 0 ≤ c12 ∧ c12 < (c11.len : Int) ∧
        ∃ c13 : Int, hcell vh3 (a14.add ((c12).toNat * 1)) = some (.int .i64 c13) ∧
        ∃ a15 : Addr, a = some a15 ∧
        ∃ c14 : Sl, hcell vh3 (a15.add 1) = some (.slice c14.base c14.len c14.cap) ∧
        ∃ a16 : Addr, c14.base = some a16 ∧ 0 ≤ k1 ∧ k1 < (c14.len : Int) ∧
        ∃ c15 : Int, hcell vh3 (a16.add ((k1).toNat * 1)) = some (.int .i64 c15) ∧
        IfB (decide (c13 < c15)) (∃ a17 : Addr, c.base = some a17 ∧ 0 ≤ i1 ∧ i1 < (c.len : Int) ∧
          ∃ c16 : Int, hcell vh3 (a17.add ((i1).toNat * 1)) = some (.int .i64 c16) ∧
          ∃ n5, n5 < n4 ∧ vI1 c16 (iAdd .i64 i1 (1 : Int)) n5 vh3)
        (∃ n5, n5 < n4 ∧ vI1 k1 (iAdd .i64 i1 (1 : Int)) n5 vh3))
      (∃ a18 : Addr, a = some a18 ∧
        ∃ c17 : Sl, hcell vh3 a18 = some (.slice c17.base c17.len c17.cap) ∧
        ∃ a19 : Addr, c17.base = some a19 ∧ 0 ≤ k1 ∧ k1 < (c17.len : Int) ∧
        StOk vh3 (a19.add ((k1).toNat * 1)) ∧
        let vh4 := hset vh3 (a19.add ((k1).toNat * 1)) (.bool false);
        R (.tuple #[.int .i64 k1, .int .i64 (0 : Int)]) vh4)))
theorem scarpref9_Alloc_Take_vc {a : Option Addr} {reserve : Bool} {h : Hp} {R : Value → Hp → Prop} (H : vcscarpref9_Alloc_Take a reserve h R) : HCalls Try.prog fn_scarpref9_Alloc_Take #[.pointer a, .bool reserve] h R :=
  vc_fn (annOf [(0, [(7, .int .i64), (8, .int .i64)])] []) Try.func16 [.pointer a, .bool reserve] (by kernel_rfl) (V := vcscarpref9_Alloc_Take a reserve h R) (by kernel_rfl) H

def vcscarpref9_Alloc_Free (a : Option Addr) (zone : Int) (h : Hp) (R : Value → Hp → Prop) : Prop :=
  IfB (decide (zone < (0 : Int))) (R (.int .i64 (1 : Int)) h)
  (∃ a1 : Addr, a = some a1 ∧
    ∃ c : Sl, hcell h a1 = some (.slice c.base c.len c.cap) ∧
    IfB (decide (zone ≥ (c.len : Int))) (R (.int .i64 (1 : Int)) h)
    (∃ a2 : Addr, a = some a2 ∧
      ∃ c1 : Sl, hcell h a2 = some (.slice c1.base c1.len c1.cap) ∧
      ∃ a3 : Addr, c1.base = some a3 ∧ 0 ≤ zone ∧ zone < (c1.len : Int) ∧
      ∃ c2 : Bool, hcell h (a3.add ((zone).toNat * 1)) = some (.bool c2) ∧
      IfB c2 (R (.int .i64 (14 : Int)) h)
      (∃ a4 : Addr, a = some a4 ∧
        ∃ c3 : Sl, hcell h a4 = some (.slice c3.base c3.len c3.cap) ∧
        ∃ a5 : Addr, c3.base = some a5 ∧ 0 ≤ zone ∧ zone < (c3.len : Int) ∧
        StOk h (a5.add ((zone).toNat * 1)) ∧
        let vh := hset h (a5.add ((zone).toNat * 1)) (.bool true);
        ∃ a6 : Addr, a = some a6 ∧
        ∃ c4 : Sl, hcell vh (a6.add 1) = some (.slice c4.base c4.len c4.cap) ∧
        ∃ a7 : Addr, c4.base = some a7 ∧ 0 ≤ zone ∧ zone < (c4.len : Int) ∧
        ∃ c5 : Int, hcell vh (a7.add ((zone).toNat * 1)) = some (.int .i64 c5) ∧
        ∃ a8 : Addr, c4.base = some a8 ∧ 0 ≤ zone ∧ zone < (c4.len : Int) ∧
        StOk vh (a8.add ((zone).toNat * 1)) ∧
        let vh1 := hset vh (a8.add ((zone).toNat * 1)) (.int .i64 (iAdd .i64 c5 (1 : Int)));
        R (.int .i64 (0 : Int)) vh1)))
theorem scarpref9_Alloc_Free_vc {a : Option Addr} {zone : Int} {h : Hp} {R : Value → Hp → Prop} (H : vcscarpref9_Alloc_Free a zone h R) : HCalls Try.prog fn_scarpref9_Alloc_Free #[.pointer a, .int .i64 zone] h R :=
  vc_fn (annOf [] []) Try.func17 [.pointer a, .int .i64 zone] (by kernel_rfl) (V := vcscarpref9_Alloc_Free a zone h R) (by kernel_rfl) H

def vcalloc_Alloc_Mark (a : Option Addr) (i : Int) (h : Hp) (R : Value → Hp → Prop) : Prop :=
  HCalls Try.prog fn_alloc_Alloc_at #[.pointer a, .int .i64 i] h fun r vh =>
  ∃ c : Option Addr, r = .pointer c ∧
  IfB (isNone? c) (R (.int .i64 (1 : Int)) vh)
  (∃ a1 : Addr, c = some a1 ∧
    ∃ c1 : Bool, hcell vh a1 = some (.bool c1) ∧
    IfB c1 (R (.int .i64 (14 : Int)) vh)
    (∃ a2 : Addr, c = some a2 ∧
      StOk vh a2 ∧
      let vh1 := hset vh a2 (.bool true);
      R (.int .i64 (0 : Int)) vh1))
theorem alloc_Alloc_Mark_vc {a : Option Addr} {i : Int} {h : Hp} {R : Value → Hp → Prop} (H : vcalloc_Alloc_Mark a i h R) : HCalls Try.prog fn_alloc_Alloc_Mark #[.pointer a, .int .i64 i] h R :=
  vc_fn (annOf [] []) Try.func18 [.pointer a, .int .i64 i] (by kernel_rfl) (V := vcalloc_Alloc_Mark a i h R) (by kernel_rfl) H

def vcscarpref9_Alloc_Mark (a : Option Addr) (zone : Int) (h : Hp) (R : Value → Hp → Prop) : Prop :=
  IfB (decide (zone < (0 : Int))) (R (.int .i64 (1 : Int)) h)
  (∃ a1 : Addr, a = some a1 ∧
    ∃ c : Sl, hcell h a1 = some (.slice c.base c.len c.cap) ∧
    IfB (decide (zone ≥ (c.len : Int))) (R (.int .i64 (1 : Int)) h)
    (∃ a2 : Addr, a = some a2 ∧
      ∃ c1 : Sl, hcell h a2 = some (.slice c1.base c1.len c1.cap) ∧
      ∃ a3 : Addr, c1.base = some a3 ∧ 0 ≤ zone ∧ zone < (c1.len : Int) ∧
      ∃ c2 : Bool, hcell h (a3.add ((zone).toNat * 1)) = some (.bool c2) ∧
      IfB (!c2) (R (.int .i64 (14 : Int)) h)
      (∃ a4 : Addr, a = some a4 ∧
        ∃ c3 : Sl, hcell h a4 = some (.slice c3.base c3.len c3.cap) ∧
        ∃ a5 : Addr, c3.base = some a5 ∧ 0 ≤ zone ∧ zone < (c3.len : Int) ∧
        StOk h (a5.add ((zone).toNat * 1)) ∧
        let vh := hset h (a5.add ((zone).toNat * 1)) (.bool false);
        R (.int .i64 (0 : Int)) vh)))
theorem scarpref9_Alloc_Mark_vc {a : Option Addr} {zone : Int} {h : Hp} {R : Value → Hp → Prop} (H : vcscarpref9_Alloc_Mark a zone h R) : HCalls Try.prog fn_scarpref9_Alloc_Mark #[.pointer a, .int .i64 zone] h R :=
  vc_fn (annOf [] []) Try.func19 [.pointer a, .int .i64 zone] (by kernel_rfl) (V := vcscarpref9_Alloc_Mark a zone h R) (by kernel_rfl) H

def vcscarpref9_Alloc_Count (a : Option Addr) (h : Hp) (R : Value → Hp → Prop) : Prop :=
  HCalls Try.prog fn_scarpref9_Alloc_List #[.pointer a] h fun r vh =>
  ∃ c : Sl, r = .slice c.base c.len c.cap ∧
  R (.int .i64 (c.len : Int)) vh
theorem scarpref9_Alloc_Count_vc {a : Option Addr} {h : Hp} {R : Value → Hp → Prop} (H : vcscarpref9_Alloc_Count a h R) : HCalls Try.prog fn_scarpref9_Alloc_Count #[.pointer a] h R :=
  vc_fn (annOf [] []) Try.func20 [.pointer a] (by kernel_rfl) (V := vcscarpref9_Alloc_Count a h R) (by kernel_rfl) H

def vcscarpalike_Ints (a : Sl) (b : Sl) (h : Hp) (R : Value → Hp → Prop) : Prop :=
  IfB ((a.len : Int) != (b.len : Int)) (R (.bool false) h)
  (∃ (vI : Int → Nat → Hp → Prop) (n : Nat), vI (0 : Int) n h ∧
    ∀ _junk : Nat → Value, ∀ i : Int, ∀ (n1 : Nat) (vh : Hp), vI i n1 vh →
    IfB (decide (i < (a.len : Int))) (∃ a1 : Addr, a.base = some a1 ∧ 0 ≤ i ∧ i < (a.len : Int) ∧
      ∃ c : Int, hcell vh (a1.add ((i).toNat * 1)) = some (.int .i64 c) ∧
      ∃ a2 : Addr, b.base = some a2 ∧ 0 ≤ i ∧ i < (b.len : Int) ∧
      ∃ c1 : Int, hcell vh (a2.add ((i).toNat * 1)) = some (.int .i64 c1) ∧
      IfB (c != c1) (R (.bool false) vh)
      (∃ n2, n2 < n1 ∧ vI (iAdd .i64 i (1 : Int)) n2 vh))
    (R (.bool true) vh))
theorem scarpalike_Ints_vc {a : Sl} {b : Sl} {h : Hp} {R : Value → Hp → Prop} (H : vcscarpalike_Ints a b h R) : HCalls Try.prog fn_scarpalike_Ints #[.slice a.base a.len a.cap, .slice b.base b.len b.cap] h R :=
  vc_fn (annOf [(0, [(5, .int .i64)])] []) Try.func21 [.slice a.base a.len a.cap, .slice b.base b.len b.cap] (by kernel_rfl) (V := vcscarpalike_Ints a b h R) (by kernel_rfl) H

def vcalloc_Alloc_List (a : Option Addr) (h : Hp) (R : Value → Hp → Prop) : Prop :=
  IfB (isNone? a) (R (.slice Sl.nil.base Sl.nil.len Sl.nil.cap) h)
  (∃ a1 : Addr, a = some a1 ∧
    ∃ c : Sl, hcell h a1 = some (.slice c.base c.len c.cap) ∧
    ∃ (vI : Sl → Int → Nat → Hp → Prop) (n : Nat), vI Sl.nil (0 : Int) n h ∧
    ∀ _junk : Nat → Value, ∀ out : Sl, ∀ t12 : Int, ∀ (n1 : Nat) (vh : Hp), vI out t12 n1 vh →
    IfB (decide (t12 < (c.len : Int))) (∃ a2 : Addr, c.base = some a2 ∧ 0 ≤ t12 ∧ t12 < (c.len : Int) ∧
      ∃ c1 : Bool, ∃ c2 : Int, hcell vh ((a2.add ((t12).toNat * 2))) = some (.bool c1) ∧ hcell vh ((a2.add ((t12).toNat * 2)).add 1) = some (.int .i64 c2) ∧
      let vh1 := alc vh [.bool false, .int .i64 (0 : Int)] 55;
      stCells (nw vh) 0 [.bool c1, .int .i64 c2] vh1 fun vh2 =>
      ∃ c3 : Bool, hcell vh2 (nw vh) = some (.bool c3) ∧
      IfB (!c3) (let vh3 := alc vh2 [.int .i64 t12] 3;
        AppC 3 1 8 #[.int .i64 (0 : Int)] out (Sl.mk (some (nw vh2)) 1 1) vh3 fun s vh4 =>
        ∃ n2, n2 < n1 ∧ vI s (iAdd .i64 t12 (1 : Int)) n2 vh4)
      (∃ n2, n2 < n1 ∧ vI out (iAdd .i64 t12 (1 : Int)) n2 vh2))
    (R (.slice out.base out.len out.cap) vh))
theorem alloc_Alloc_List_vc {a : Option Addr} {h : Hp} {R : Value → Hp → Prop} (H : vcalloc_Alloc_List a h R) : HCalls Try.prog fn_alloc_Alloc_List #[.pointer a] h R :=
  vc_fn (annOf [(0, [(2, .sl), (12, .int .i64)])] []) Try.func22 [.pointer a] (by kernel_rfl) (V := vcalloc_Alloc_List a h R) (by kernel_rfl) H

def vcscarpref9_Alloc_List (a : Option Addr) (h : Hp) (R : Value → Hp → Prop) : Prop :=
  ∃ (vI : Sl → Int → Nat → Hp → Prop) (n : Nat), vI Sl.nil (0 : Int) n h ∧
  ∀ _junk : Nat → Value, ∀ l : Sl, ∀ i : Int, ∀ (n1 : Nat) (vh : Hp), vI l i n1 vh →
  ∃ a1 : Addr, a = some a1 ∧
  ∃ c : Sl, hcell vh a1 = some (.slice c.base c.len c.cap) ∧
  IfB (decide (i < (c.len : Int))) (∃ a2 : Addr, a = some a2 ∧
    ∃ c1 : Sl, hcell vh a2 = some (.slice c1.base c1.len c1.cap) ∧
    ∃ a3 : Addr, c1.base = some a3 ∧ 0 ≤ i ∧ i < (c1.len : Int) ∧
    ∃ c2 : Bool, hcell vh (a3.add ((i).toNat * 1)) = some (.bool c2) ∧
    IfB c2 (let vh1 := alc vh [.int .i64 i] 3;
      AppC 3 1 8 #[.int .i64 (0 : Int)] l (Sl.mk (some (nw vh)) 1 1) vh1 fun s vh2 =>
      ∃ n2, n2 < n1 ∧ vI s (iAdd .i64 i (1 : Int)) n2 vh2)
    (∃ n2, n2 < n1 ∧ vI l (iAdd .i64 i (1 : Int)) n2 vh))
  (R (.slice l.base l.len l.cap) vh)
theorem scarpref9_Alloc_List_vc {a : Option Addr} {h : Hp} {R : Value → Hp → Prop} (H : vcscarpref9_Alloc_List a h R) : HCalls Try.prog fn_scarpref9_Alloc_List #[.pointer a] h R :=
  vc_fn (annOf [(0, [(3, .sl), (4, .int .i64)])] []) Try.func23 [.pointer a] (by kernel_rfl) (V := vcscarpref9_Alloc_List a h R) (by kernel_rfl) H

def vcalloc_Alloc_at (a : Option Addr) (i : Int) (h : Hp) (R : Value → Hp → Prop) : Prop :=
  IfB (isNone? a) (R (.pointer none) h)
  (IfB (decide (i < (0 : Int))) (R (.pointer none) h)
    (∃ a1 : Addr, a = some a1 ∧
      ∃ c : Sl, hcell h a1 = some (.slice c.base c.len c.cap) ∧
      IfB (decide (i ≥ (c.len : Int))) (R (.pointer none) h)
      (∃ a2 : Addr, a = some a2 ∧
        ∃ c1 : Sl, hcell h a2 = some (.slice c1.base c1.len c1.cap) ∧
        ∃ a3 : Addr, c1.base = some a3 ∧ 0 ≤ i ∧ i < (c1.len : Int) ∧
        R (.pointer (some (a3.add ((i).toNat * 2)))) h)))
theorem alloc_Alloc_at_vc {a : Option Addr} {i : Int} {h : Hp} {R : Value → Hp → Prop} (H : vcalloc_Alloc_at a i h R) : HCalls Try.prog fn_alloc_Alloc_at #[.pointer a, .int .i64 i] h R :=
  vc_fn (annOf [] []) Try.func24 [.pointer a, .int .i64 i] (by kernel_rfl) (V := vcalloc_Alloc_at a i h R) (by kernel_rfl) H

def vcscarplaw10_AllocOnce (zones : Int) (spare : Int) (l : Sl) (h : Hp) (R : Value → Hp → Prop) : Prop :=
  IfB (decide (zones < (1 : Int))) (HCalls Try.prog fn_scarplaw10_awake #[] h fun r vh =>
    ∃ c : Bool, r = .bool c ∧
    R (.bool c) vh)
  (IfB (decide (zones > (64 : Int))) (HCalls Try.prog fn_scarplaw10_awake #[] h fun r1 vh1 =>
      ∃ c1 : Bool, r1 = .bool c1 ∧
      R (.bool c1) vh1)
    (IfB (decide (spare < (0 : Int))) (HCalls Try.prog fn_scarplaw10_awake #[] h fun r2 vh2 =>
        ∃ c2 : Bool, r2 = .bool c2 ∧
        R (.bool c2) vh2)
      (IfB (decide (spare > zones)) (HCalls Try.prog fn_scarplaw10_awake #[] h fun r3 vh3 =>
          ∃ c3 : Bool, r3 = .bool c3 ∧
          R (.bool c3) vh3)
        (IfB (decide ((l.len : Int) > (500 : Int))) (HCalls Try.prog fn_scarplaw10_awake #[] h fun r4 vh4 =>
            ∃ c4 : Bool, r4 = .bool c4 ∧
            R (.bool c4) vh4)
          (HCalls Try.prog fn_alloc_New #[.int .i64 zones, .int .i64 spare] h fun r5 vh5 =>
            ∃ c5 : Option Addr, ∃ c6 : Int, r5 = .tuple #[.pointer c5, .int .i64 c6] ∧
            IfB (c6 != (0 : Int)) (R (.bool false) vh5)
            (IfB (isNone? c5) (R (.bool false) vh5)
              (MkC 4 1 #[.bool false] zones zones vh5 fun s vh6 =>
                ∃ (vI : Int → Int → Nat → Hp → Prop) (n : Nat), vI zones (0 : Int) n vh6 ∧
                ∀ _junk : Nat → Value, ∀ n3 : Int, ∀ i : Int, ∀ (n1 : Nat) (vh7 : Hp), vI n3 i n1 vh7 →
                IfB (decide (i < (l.len : Int))) (∃ a : Addr, l.base = some a ∧ 0 ≤ i ∧ i < (l.len : Int) ∧
                  ∃ c7 : Int, hcell vh7 (a.add ((i).toNat * 2)) = some (.int .i64 c7) ∧
                  IfB (c7 == (1 : Int)) (∃ a1 : Addr, l.base = some a1 ∧ 0 ≤ i ∧ i < (l.len : Int) ∧
                    ∃ c8 : Int, hcell vh7 (a1.add ((i).toNat * 2)) = some (.int .i64 c8) ∧
                    HCalls Try.prog fn_alloc_Alloc_Take #[.pointer c5, .bool (c8 == (2 : Int))] vh7 fun r6 vh8 =>
                    ∃ c9 : Int, ∃ c10 : Int, r6 = .tuple #[.int .i64 c9, .int .i64 c10] ∧
                    IfB (decide (n3 > (0 : Int))) (∃ a2 : Addr, l.base = some a2 ∧ 0 ≤ i ∧ i < (l.len : Int) ∧
                      ∃ c11 : Int, hcell vh8 (a2.add ((i).toNat * 2)) = some (.int .i64 c11) ∧
                      IfB (c11 == (2 : Int)) (IfB (!((c10 == (0 : Int)) == true)) (R (.bool false) vh8)
                        (IfB (decide (c9 < (0 : Int))) (R (.bool false) vh8)
                          (IfB (decide (c9 ≥ zones)) (R (.bool false) vh8)
                            (∃ a3 : Addr, s.base = some a3 ∧ 0 ≤ c9 ∧ c9 < (s.len : Int) ∧
                              ∃ c12 : Bool, hcell vh8 (a3.add ((c9).toNat * 1)) = some (.bool c12) ∧
                              IfB c12 (R (.bool false) vh8)
                              (∃ a4 : Addr, s.base = some a4 ∧ 0 ≤ c9 ∧ c9 < (s.len : Int) ∧
                                StOk vh8 (a4.add ((c9).toNat * 1)) ∧
                                let vh9 := hset vh8 (a4.add ((c9).toNat * 1)) (.bool true);
                                HCalls Try.prog fn_alloc_Alloc_Count #[.pointer c5] vh9 fun r7 vh10 =>
                                ∃ c13 : Int, r7 = .int .i64 c13 ∧
                                IfB (c13 != (iSub .i64 n3 (1 : Int))) (R (.bool false) vh10)
                                (∃ n2, n2 < n1 ∧ vI (iSub .i64 n3 (1 : Int)) (iAdd .i64 i (1 : Int)) n2 vh10))))))
                      (IfB (!((c10 == (0 : Int)) == (decide (n3 > spare)))) (R (.bool false) vh8)
                        (IfB (decide (n3 > spare)) (IfB (decide (c9 < (0 : Int))) (R (.bool false) vh8)
                            (IfB (decide (c9 ≥ zones)) (R (.bool false) vh8)
                              (∃ a5 : Addr, s.base = some a5 ∧ 0 ≤ c9 ∧ c9 < (s.len : Int) ∧
                                ∃ c14 : Bool, hcell vh8 (a5.add ((c9).toNat * 1)) = some (.bool c14) ∧
                                IfB c14 (R (.bool false) vh8)
                                (∃ a6 : Addr, s.base = some a6 ∧ 0 ≤ c9 ∧ c9 < (s.len : Int) ∧
                                  StOk vh8 (a6.add ((c9).toNat * 1)) ∧
                                  let vh11 := hset vh8 (a6.add ((c9).toNat * 1)) (.bool true);
                                  HCalls Try.prog fn_alloc_Alloc_Count #[.pointer c5] vh11 fun r8 vh12 =>
                                  ∃ c15 : Int, r8 = .int .i64 c15 ∧
                                  IfB (c15 != (iSub .i64 n3 (1 : Int))) (R (.bool false) vh12)
                                  (∃ n2, n2 < n1 ∧ vI (iSub .i64 n3 (1 : Int)) (iAdd .i64 i (1 : Int)) n2 vh12)))))
                          (HCalls Try.prog fn_alloc_Alloc_Count #[.pointer c5] vh8 fun r9 vh13 =>
                            ∃ c16 : Int, r9 = .int .i64 c16 ∧
                            IfB (c16 != n3) (R (.bool false) vh13)
                            (∃ n2, n2 < n1 ∧ vI n3 (iAdd .i64 i (1 : Int)) n2 vh13)))))
                    (IfB (!((c10 == (0 : Int)) == false)) (R (.bool false) vh8)
                      (HCalls Try.prog fn_alloc_Alloc_Count #[.pointer c5] vh8 fun r10 vh14 =>
                        ∃ c17 : Int, r10 = .int .i64 c17 ∧
                        IfB (c17 != n3) (R (.bool false) vh14)
                        (∃ n2, n2 < n1 ∧ vI n3 (iAdd .i64 i (1 : Int)) n2 vh14))))
                  (IfB (c7 == (2 : Int)) (∃ a7 : Addr, l.base = some a7 ∧ 0 ≤ i ∧ i < (l.len : Int) ∧
                      ∃ c18 : Int, hcell vh7 (a7.add ((i).toNat * 2)) = some (.int .i64 c18) ∧
                      HCalls Try.prog fn_alloc_Alloc_Take #[.pointer c5, .bool (c18 == (2 : Int))] vh7 fun r11 vh15 =>
                      ∃ c19 : Int, ∃ c20 : Int, r11 = .tuple #[.int .i64 c19, .int .i64 c20] ∧
                      IfB (decide (n3 > (0 : Int))) (∃ a8 : Addr, l.base = some a8 ∧ 0 ≤ i ∧ i < (l.len : Int) ∧
                        ∃ c21 : Int, hcell vh15 (a8.add ((i).toNat * 2)) = some (.int .i64 c21) ∧
                        IfB (c21 == (2 : Int)) (IfB (!((c20 == (0 : Int)) == true)) (R (.bool false) vh15)
                          (IfB (decide (c19 < (0 : Int))) (R (.bool false) vh15)
                            (IfB (decide (c19 ≥ zones)) (R (.bool false) vh15)
                              (∃ a9 : Addr, s.base = some a9 ∧ 0 ≤ c19 ∧ c19 < (s.len : Int) ∧
                                ∃ c22 : Bool, hcell vh15 (a9.add ((c19).toNat * 1)) = some (.bool c22) ∧
                                IfB c22 (R (.bool false) vh15)
                                (∃ a10 : Addr, s.base = some a10 ∧ 0 ≤ c19 ∧ c19 < (s.len : Int) ∧
                                  StOk vh15 (a10.add ((c19).toNat * 1)) ∧
                                  let vh16 := hset vh15 (a10.add ((c19).toNat * 1)) (.bool true);
                                  HCalls Try.prog fn_alloc_Alloc_Count #[.pointer c5] vh16 fun r12 vh17 =>
                                  ∃ c23 : Int, r12 = .int .i64 c23 ∧
                                  IfB (c23 != (iSub .i64 n3 (1 : Int))) (R (.bool false) vh17)
                                  (∃ n2, n2 < n1 ∧ vI (iSub .i64 n3 (1 : Int)) (iAdd .i64 i (1 : Int)) n2 vh17))))))
                        (IfB (!((c20 == (0 : Int)) == (decide (n3 > spare)))) (R (.bool false) vh15)
                          (IfB (decide (n3 > spare)) (IfB (decide (c19 < (0 : Int))) (R (.bool false) vh15)
                              (IfB (decide (c19 ≥ zones)) (R (.bool false) vh15)
                                (∃ a11 : Addr, s.base = some a11 ∧ 0 ≤ c19 ∧ c19 < (s.len : Int) ∧
                                  ∃ c24 : Bool, hcell vh15 (a11.add ((c19).toNat * 1)) = some (.bool c24) ∧
                                  IfB c24 (R (.bool false) vh15)
                                  (∃ a12 : Addr, s.base = some a12 ∧ 0 ≤ c19 ∧ c19 < (s.len : Int) ∧
                                    StOk vh15 (a12.add ((c19).toNat * 1)) ∧
                                    let vh18 := hset vh15 (a12.add ((c19).toNat * 1)) (.bool true);
                                    HCalls Try.prog fn_alloc_Alloc_Count #[.pointer c5] vh18 fun r13 vh19 =>
                                    ∃ c25 : Int, r13 = .int .i64 c25 ∧
                                    IfB (c25 != (iSub .i64 n3 (1 : Int))) (R (.bool false) vh19)
                                    (∃ n2, n2 < n1 ∧ vI (iSub .i64 n3 (1 : Int)) (iAdd .i64 i (1 : Int)) n2 vh19)))))
                            (HCalls Try.prog fn_alloc_Alloc_Count #[.pointer c5] vh15 fun r14 vh20 =>
                              ∃ c26 : Int, r14 = .int .i64 c26 ∧
                              IfB (c26 != n3) (R (.bool false) vh20)
                              (∃ n2, n2 < n1 ∧ vI n3 (iAdd .i64 i (1 : Int)) n2 vh20)))))
                      (IfB (!((c20 == (0 : Int)) == false)) (R (.bool false) vh15)
                        (HCalls Try.prog fn_alloc_Alloc_Count #[.pointer c5] vh15 fun r15 vh21 =>
                          ∃ c27 : Int, r15 = .int .i64 c27 ∧
                          IfB (c27 != n3) (R (.bool false) vh21)
                          (∃ n2, n2 < n1 ∧ vI n3 (iAdd .i64 i (1 : Int)) n2 vh21))))
                    (IfB (c7 == (3 : Int)) (∃ a13 : Addr, l.base = some a13 ∧ 0 ≤ i ∧ i < (l.len : Int) ∧
                        ∃ c28 : Int, hcell vh7 ((a13.add ((i).toNat * 2)).add 1) = some (.int .i64 c28) ∧
                        HCalls Try.prog fn_scarpalike_Round #[.int .i64 c28, .int .i64 zones] vh7 fun r16 vh22 =>
                        ∃ c29 : Int, r16 = .int .i64 c29 ∧
                        ∃ hR : Hp, Sub hR vh22 ∧
                        ∃ a14 : Addr, s.base = some a14 ∧ 0 ≤ c29 ∧ c29 < (s.len : Int) ∧
                        ∃ c30 : Bool, hcell hR (a14.add ((c29).toNat * 1)) = some (.bool c30) ∧
                        HCalls Try.prog fn_alloc_Alloc_Free #[.pointer c5, .int .i64 c29] vh22 fun r17 vh23 =>
                        ∃ c31 : Int, r17 = .int .i64 c31 ∧
                        Sub hR vh23 ∧
                        IfB (!((c31 == (0 : Int)) == c30)) (R (.bool false) vh23)
                        (∃ a15 : Addr, s.base = some a15 ∧ 0 ≤ c29 ∧ c29 < (s.len : Int) ∧
                          ∃ c32 : Bool, hcell vh23 (a15.add ((c29).toNat * 1)) = some (.bool c32) ∧
                          IfB c32 (∃ a16 : Addr, s.base = some a16 ∧ 0 ≤ c29 ∧ c29 < (s.len : Int) ∧
                            StOk vh23 (a16.add ((c29).toNat * 1)) ∧
                            let vh24 := hset vh23 (a16.add ((c29).toNat * 1)) (.bool false);
                            HCalls Try.prog fn_alloc_Alloc_Count #[.pointer c5] vh24 fun r18 vh25 =>
                            ∃ c33 : Int, r18 = .int .i64 c33 ∧
                            IfB (c33 != (iAdd .i64 n3 (1 : Int))) (R (.bool false) vh25)
                            (∃ n2, n2 < n1 ∧ vI (iAdd .i64 n3 (1 : Int)) (iAdd .i64 i (1 : Int)) n2 vh25))
                          (HCalls Try.prog fn_alloc_Alloc_Count #[.pointer c5] vh23 fun r19 vh26 =>
                            ∃ c34 : Int, r19 = .int .i64 c34 ∧
                            IfB (c34 != n3) (R (.bool false) vh26)
                            (∃ n2, n2 < n1 ∧ vI n3 (iAdd .i64 i (1 : Int)) n2 vh26))))
                      (HCalls Try.prog fn_alloc_Alloc_Count #[.pointer c5] vh7 fun r20 vh27 =>
                        ∃ c35 : Int, r20 = .int .i64 c35 ∧
                        IfB (c35 != n3) (R (.bool false) vh27)
                        (∃ n2, n2 < n1 ∧ vI n3 (iAdd .i64 i (1 : Int)) n2 vh27)))))
                (HCalls Try.prog fn_scarplaw10_awake #[] vh7 fun r21 vh28 =>
                  ∃ c36 : Bool, r21 = .bool c36 ∧
                  R (.bool c36) vh28))))))))
theorem scarplaw10_AllocOnce_vc {zones : Int} {spare : Int} {l : Sl} {h : Hp} {R : Value → Hp → Prop} (H : vcscarplaw10_AllocOnce zones spare l h R) : HCalls Try.prog fn_scarplaw10_AllocOnce #[.int .i64 zones, .int .i64 spare, .slice l.base l.len l.cap] h R :=
  vc_fn (annOfL [(0, [(10, .int .i64), (11, .int .i64)])] [] [25]) Try.func3 [.int .i64 zones, .int .i64 spare, .slice l.base l.len l.cap] (by kernel_rfl) (V := vcscarplaw10_AllocOnce zones spare l h R) (by kernel_rfl) H

def vcscarplaw10_AllocPlays (zones : Int) (spare : Int) (l : Sl) (h : Hp) (R : Value → Hp → Prop) : Prop :=
  IfB (decide ((l.len : Int) > (500 : Int))) (HCalls Try.prog fn_scarplaw10_awake #[] h fun r vh =>
    ∃ c : Bool, r = .bool c ∧
    R (.bool c) vh)
  (HCalls Try.prog fn_alloc_New #[.int .i64 zones, .int .i64 spare] h fun r1 vh1 =>
    ∃ c1 : Option Addr, ∃ c2 : Int, r1 = .tuple #[.pointer c1, .int .i64 c2] ∧
    HCalls Try.prog fn_scarpref9_NewAlloc #[.int .i64 zones, .int .i64 spare] vh1 fun r2 vh2 =>
    ∃ c3 : Option Addr, ∃ c4 : Int, r2 = .tuple #[.pointer c3, .int .i64 c4] ∧
    IfB (c2 != c4) (R (.bool false) vh2)
    (IfB (!((isNone? c1) == (isNone? c3))) (R (.bool false) vh2)
      (IfB (isNone? c1) (HCalls Try.prog fn_scarplaw10_awake #[] vh2 fun r3 vh3 =>
          ∃ c5 : Bool, r3 = .bool c5 ∧
          R (.bool c5) vh3)
        (∃ (vI : Int → Nat → Hp → Prop) (n : Nat), vI (0 : Int) n vh2 ∧
          ∀ _junk : Nat → Value, ∀ i : Int, ∀ (n1 : Nat) (vh4 : Hp), vI i n1 vh4 →
          IfB (decide (i < (l.len : Int))) (∃ a : Addr, l.base = some a ∧ 0 ≤ i ∧ i < (l.len : Int) ∧
            ∃ c6 : Int, ∃ c7 : Int, hcell vh4 ((a.add ((i).toNat * 2))) = some (.int .i64 c6) ∧ hcell vh4 ((a.add ((i).toNat * 2)).add 1) = some (.int .i64 c7) ∧
            let vh5 := alc vh4 [.int .i64 (0 : Int), .int .i64 (0 : Int)] 30;
            stCells (nw vh4) 0 [.int .i64 c6, .int .i64 c7] vh5 fun vh6 =>
            ∃ vJ : Bool → Hp → Prop,
            (∃ c8 : Int, hcell vh6 (nw vh4) = some (.int .i64 c8) ∧
              IfB (c8 == (1 : Int)) (∃ c9 : Int, hcell vh6 (nw vh4) = some (.int .i64 c9) ∧
                HCalls Try.prog fn_alloc_Alloc_Take #[.pointer c1, .bool (c9 == (2 : Int))] vh6 fun r4 vh7 =>
                ∃ c10 : Int, ∃ c11 : Int, r4 = .tuple #[.int .i64 c10, .int .i64 c11] ∧
                ∃ c12 : Int, hcell vh7 (nw vh4) = some (.int .i64 c12) ∧
                HCalls Try.prog fn_scarpref9_Alloc_Take #[.pointer c3, .bool (c12 == (2 : Int))] vh7 fun r5 vh8 =>
                ∃ c13 : Int, ∃ c14 : Int, r5 = .tuple #[.int .i64 c13, .int .i64 c14] ∧
                IfB (c10 == c13) (vJ (c11 == c14) vh8)
                (vJ false vh8))
              (IfB (c8 == (2 : Int)) (∃ c15 : Int, hcell vh6 (nw vh4) = some (.int .i64 c15) ∧
                  HCalls Try.prog fn_alloc_Alloc_Take #[.pointer c1, .bool (c15 == (2 : Int))] vh6 fun r6 vh9 =>
                  ∃ c16 : Int, ∃ c17 : Int, r6 = .tuple #[.int .i64 c16, .int .i64 c17] ∧
                  ∃ c18 : Int, hcell vh9 (nw vh4) = some (.int .i64 c18) ∧
                  HCalls Try.prog fn_scarpref9_Alloc_Take #[.pointer c3, .bool (c18 == (2 : Int))] vh9 fun r7 vh10 =>
                  ∃ c19 : Int, ∃ c20 : Int, r7 = .tuple #[.int .i64 c19, .int .i64 c20] ∧
                  IfB (c16 == c19) (vJ (c17 == c20) vh10)
                  (vJ false vh10))
                (IfB (c8 == (3 : Int)) (∃ hR : Hp, Sub hR vh6 ∧
                    ∃ c21 : Int, hcell hR ((nw vh4).add 1) = some (.int .i64 c21) ∧
                    ∃ c22 : Int, hcell hR ((nw vh4).add 1) = some (.int .i64 c22) ∧
                    HCalls Try.prog fn_alloc_Alloc_Free #[.pointer c1, .int .i64 c21] vh6 fun r8 vh11 =>
                    ∃ c23 : Int, r8 = .int .i64 c23 ∧
                    Sub hR vh11 ∧
                    HCalls Try.prog fn_scarpref9_Alloc_Free #[.pointer c3, .int .i64 c22] vh11 fun r9 vh12 =>
                    ∃ c24 : Int, r9 = .int .i64 c24 ∧
                    Sub hR vh12 ∧
                    vJ (c23 == c24) vh12)
                  (IfB (c8 == (4 : Int)) (∃ hR1 : Hp, Sub hR1 vh6 ∧
                      ∃ c25 : Int, hcell hR1 ((nw vh4).add 1) = some (.int .i64 c25) ∧
                      ∃ c26 : Int, hcell hR1 ((nw vh4).add 1) = some (.int .i64 c26) ∧
                      HCalls Try.prog fn_alloc_Alloc_Mark #[.pointer c1, .int .i64 c25] vh6 fun r10 vh13 =>
                      ∃ c27 : Int, r10 = .int .i64 c27 ∧
                      Sub hR1 vh13 ∧
                      HCalls Try.prog fn_scarpref9_Alloc_Mark #[.pointer c3, .int .i64 c26] vh13 fun r11 vh14 =>
                      ∃ c28 : Int, r11 = .int .i64 c28 ∧
                      Sub hR1 vh14 ∧
                      vJ (c27 == c28) vh14)
                    (vJ true vh6))))) ∧
            ∀ _junk : Nat → Value, ∀ ok : Bool, ∀ vh15 : Hp, vJ ok vh15 →
            ∃ vJ1 : Int → Hp → Prop,
            (∃ c29 : Int, hcell vh15 ((nw vh4).add 1) = some (.int .i64 c29) ∧
              IfB (decide (c29 ≥ (0 : Int))) (∃ c30 : Int, hcell vh15 ((nw vh4).add 1) = some (.int .i64 c30) ∧
                IfB (decide (c30 < zones)) (∃ a1 : Addr, c3 = some a1 ∧
                  ∃ c31 : Sl, hcell vh15 (a1.add 1) = some (.slice c31.base c31.len c31.cap) ∧
                  ∃ c32 : Int, hcell vh15 ((nw vh4).add 1) = some (.int .i64 c32) ∧
                  ∃ a2 : Addr, c31.base = some a2 ∧ 0 ≤ c32 ∧ c32 < (c31.len : Int) ∧
                  ∃ c33 : Int, hcell vh15 (a2.add ((c32).toNat * 1)) = some (.int .i64 c33) ∧
                  vJ1 c33 vh15)
                (vJ1 (0 : Int) vh15))
              (vJ1 (0 : Int) vh15)) ∧
            ∀ _junk : Nat → Value, ∀ w : Int, ∀ vh16 : Hp, vJ1 w vh16 →
            IfB (!ok) (R (.bool false) vh16)
            (HCalls Try.prog fn_alloc_Alloc_Count #[.pointer c1] vh16 fun r12 vh17 =>
              ∃ c34 : Int, r12 = .int .i64 c34 ∧
              HCalls Try.prog fn_scarpref9_Alloc_Count #[.pointer c3] vh17 fun r13 vh18 =>
              ∃ c35 : Int, r13 = .int .i64 c35 ∧
              IfB (c34 != c35) (R (.bool false) vh18)
              (HCalls Try.prog fn_alloc_Alloc_List #[.pointer c1] vh18 fun r14 vh19 =>
                ∃ c36 : Sl, r14 = .slice c36.base c36.len c36.cap ∧
                HCalls Try.prog fn_scarpref9_Alloc_List #[.pointer c3] vh19 fun r15 vh20 =>
                ∃ c37 : Sl, r15 = .slice c37.base c37.len c37.cap ∧
                HCalls Try.prog fn_scarpalike_Ints #[.slice c36.base c36.len c36.cap, .slice c37.base c37.len c37.cap] vh20 fun r16 vh21 =>
                ∃ c38 : Bool, r16 = .bool c38 ∧
                IfB (!c38) (R (.bool false) vh21)
                (∃ c39 : Int, hcell vh21 ((nw vh4).add 1) = some (.int .i64 c39) ∧
                  HCalls Try.prog fn_alloc_Alloc_Wear #[.pointer c1, .int .i64 c39] vh21 fun r17 vh22 =>
                  ∃ c40 : Int, r17 = .int .i64 c40 ∧
                  IfB (c40 != w) (R (.bool false) vh22)
                  (∃ n2, n2 < n1 ∧ vI (iAdd .i64 i (1 : Int)) n2 vh22)))))
          (HCalls Try.prog fn_scarplaw10_awake #[] vh4 fun r18 vh23 =>
            ∃ c41 : Bool, r18 = .bool c41 ∧
            R (.bool c41) vh23)))))
theorem scarplaw10_AllocPlays_vc {zones : Int} {spare : Int} {l : Sl} {h : Hp} {R : Value → Hp → Prop} (H : vcscarplaw10_AllocPlays zones spare l h R) : HCalls Try.prog fn_scarplaw10_AllocPlays #[.int .i64 zones, .int .i64 spare, .slice l.base l.len l.cap] h R :=
  vc_fn (annOfL [(0, [(11, .int .i64)])] [(24, [(13, .bool)]), (27, [(18, .int .i64)])] [21, 23]) Try.func5 [.int .i64 zones, .int .i64 spare, .slice l.base l.len l.cap] (by kernel_rfl) (V := vcscarplaw10_AllocPlays zones spare l h R) (by kernel_rfl) H

end Go.Proofs.Ytmnkafplmbngnaa
