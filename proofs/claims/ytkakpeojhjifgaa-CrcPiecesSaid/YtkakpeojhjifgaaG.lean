/-
  Conditions of functions, printed by a program of ours; the kernel checks each against vcFunc.
-/
import Derived.Test.YtkakpeojhjifgaaRows
import Derived.Test.YtkakpeojhjifgaaVc5
namespace Go.Proofs.Ytkakpeojhjifgaa
set_option maxRecDepth 100000

abbrev fn_bits_Get32 : Nat := 26
abbrev fn_bits_Get64 : Nat := 31
abbrev fn_bits_Put32 : Nat := 25
abbrev fn_bits_Put64 : Nat := 24
abbrev fn_bits_Unvarint : Nat := 28
abbrev fn_bits_Varint : Nat := 13
abbrev fn_bits_get : Nat := 36
abbrev fn_bits_put : Nat := 35
abbrev fn_crc_Check : Nat := 18
abbrev fn_crc_New : Nat := 20
abbrev fn_crc_Of : Nat := 16
abbrev fn_crc_Sum_Add : Nat := 21
abbrev fn_crc_Sum_Value : Nat := 22
abbrev fn_scarpalike_Bytes : Nat := 27
abbrev fn_scarpalike_Round : Nat := 23
abbrev fn_scarpalike_Sum : Nat := 34
abbrev fn_scarpalike_Total : Nat := 19
abbrev fn_scarplaw6_BitsApart : Nat := 10
abbrev fn_scarplaw6_BitsAsks : Nat := 11
abbrev fn_scarplaw6_BitsBack : Nat := 12
abbrev fn_scarplaw6_BitsHalves : Nat := 9
abbrev fn_scarplaw6_BitsShort : Nat := 3
abbrev fn_scarplaw6_awake : Nat := 14
abbrev fn_scarplaw7_CrcAdds : Nat := 7
abbrev fn_scarplaw7_CrcAsks : Nat := 4
abbrev fn_scarplaw7_CrcEnds : Nat := 8
abbrev fn_scarplaw7_CrcFlips : Nat := 6
abbrev fn_scarplaw7_CrcPieces : Nat := 5
abbrev fn_scarplaw7_awake : Nat := 15
abbrev fn_scarpref6_Crc : Nat := 17
abbrev fn_scarpref6_Get : Nat := 30
abbrev fn_scarpref6_Put : Nat := 33
abbrev fn_scarpref6_Unvarint : Nat := 29
abbrev fn_scarpref6_Varint : Nat := 32

def vcscarplaw6_BitsShort (v : Int) (h : Hp) (R : Value → Hp → Prop) : Prop :=
  0 ≤ (7 : Int) ∧
  ∃ (vI : Int → Int → Nat → Hp → Prop) (n : Nat), vI (1 : Int) (iShr .u64 v (7 : Int)) n h ∧
  ∀ _junk : Nat → Value, ∀ n3 : Int, ∀ x : Int, ∀ (n1 : Nat) (vh : Hp), vI n3 x n1 vh →
  IfB (decide (x > (0 : Int))) (0 ≤ (7 : Int) ∧
    ∃ n2, n2 < n1 ∧ vI (iAdd .i64 n3 (1 : Int)) (iShr .u64 x (7 : Int)) n2 vh)
  (HCalls Try.prog fn_bits_Varint #[.int .u64 v] vh fun r vh1 =>
    ∃ c : Sl, r = .slice c.base c.len c.cap ∧
    ∃ (vI1 : Int → Nat → Hp → Prop) (n4 : Nat), vI1 (0 : Int) n4 vh1 ∧
    ∀ _junk : Nat → Value, ∀ i : Int, ∀ (n5 : Nat) (vh2 : Hp), vI1 i n5 vh2 →
    IfB (decide ((iAdd .i64 i (1 : Int)) < (c.len : Int))) (∃ a : Addr, c.base = some a ∧ 0 ≤ i ∧ i < (c.len : Int) ∧
      ∃ c1 : Int, hcell vh2 (a.add ((i).toNat * 1)) = some (.int .u8 c1) ∧
      IfB (decide (c1 < (128 : Int))) (R (.bool false) vh2)
      (∃ n6, n6 < n5 ∧ vI1 (iAdd .i64 i (1 : Int)) n6 vh2))
    (IfB ((c.len : Int) == n3) (∃ a1 : Addr, c.base = some a1 ∧ 0 ≤ (iSub .i64 n3 (1 : Int)) ∧ (iSub .i64 n3 (1 : Int)) < (c.len : Int) ∧
        ∃ c2 : Int, hcell vh2 (a1.add (((iSub .i64 n3 (1 : Int))).toNat * 1)) = some (.int .u8 c2) ∧
        IfB (decide (c2 < (128 : Int))) (HCalls Try.prog fn_scarplaw6_awake #[] vh2 fun r1 vh3 =>
          ∃ c3 : Bool, r1 = .bool c3 ∧
          R (.bool c3) vh3)
        (R (.bool false) vh2))
      (R (.bool false) vh2)))
theorem scarplaw6_BitsShort_vc {v : Int} {h : Hp} {R : Value → Hp → Prop} (H : vcscarplaw6_BitsShort v h R) : HCalls Try.prog fn_scarplaw6_BitsShort #[.int .u64 v] h R :=
  vc_fn (annOf [(0, [(3, .int .i64), (4, .int .u64)]), (1, [(6, .int .i64)])] []) Try.func3 [.int .u64 v] (by kernel_rfl) (V := vcscarplaw6_BitsShort v h R) (by kernel_rfl) H

def vcscarplaw7_CrcAsks (b : Sl) (v : Int) (h : Hp) (R : Value → Hp → Prop) : Prop :=
  IfB (decide ((b.len : Int) > (2000 : Int))) (HCalls Try.prog fn_scarplaw7_awake #[] h fun r vh =>
    ∃ c : Bool, r = .bool c ∧
    R (.bool c) vh)
  (HCalls Try.prog fn_crc_Of #[.slice b.base b.len b.cap] h fun r1 vh1 =>
    ∃ c1 : Int, r1 = .int .u32 c1 ∧
    HCalls Try.prog fn_scarpref6_Crc #[.slice b.base b.len b.cap] vh1 fun r2 vh2 =>
    ∃ c2 : Int, r2 = .int .u32 c2 ∧
    IfB (c1 == c2) (HCalls Try.prog fn_crc_Check #[.slice b.base b.len b.cap, .int .u32 v] vh2 fun r3 vh3 =>
      ∃ c3 : Bool, r3 = .bool c3 ∧
      HCalls Try.prog fn_scarpref6_Crc #[.slice b.base b.len b.cap] vh3 fun r4 vh4 =>
      ∃ c4 : Int, r4 = .int .u32 c4 ∧
      IfB (c3 == (c4 == v)) (HCalls Try.prog fn_scarpref6_Crc #[.slice b.base b.len b.cap] vh4 fun r5 vh5 =>
        ∃ c5 : Int, r5 = .int .u32 c5 ∧
        HCalls Try.prog fn_crc_Check #[.slice b.base b.len b.cap, .int .u32 c5] vh5 fun r6 vh6 =>
        ∃ c6 : Bool, r6 = .bool c6 ∧
        IfB c6 (HCalls Try.prog fn_scarplaw7_awake #[] vh6 fun r7 vh7 =>
          ∃ c7 : Bool, r7 = .bool c7 ∧
          R (.bool c7) vh7)
        (R (.bool false) vh6))
      (R (.bool false) vh4))
    (R (.bool false) vh2))
theorem scarplaw7_CrcAsks_vc {b : Sl} {v : Int} {h : Hp} {R : Value → Hp → Prop} (H : vcscarplaw7_CrcAsks b v h R) : HCalls Try.prog fn_scarplaw7_CrcAsks #[.slice b.base b.len b.cap, .int .u32 v] h R :=
  vc_fn (annOf [] []) Try.func4 [.slice b.base b.len b.cap, .int .u32 v] (by kernel_rfl) (V := vcscarplaw7_CrcAsks b v h R) (by kernel_rfl) H

def vcscarplaw7_CrcPieces (l : Sl) (h : Hp) (R : Value → Hp → Prop) : Prop :=
  IfB (decide ((l.len : Int) > (50 : Int))) (HCalls Try.prog fn_scarplaw7_awake #[] h fun r vh =>
    ∃ c : Bool, r = .bool c ∧
    R (.bool c) vh)
  (HCalls Try.prog fn_scarpalike_Total #[.slice l.base l.len l.cap, .int .i64 (2000 : Int)] h fun r1 vh1 =>
    ∃ c1 : Int, r1 = .int .i64 c1 ∧
    IfB (decide (c1 > (2000 : Int))) (HCalls Try.prog fn_scarplaw7_awake #[] vh1 fun r2 vh2 =>
      ∃ c2 : Bool, r2 = .bool c2 ∧
      R (.bool c2) vh2)
    (HCalls Try.prog fn_crc_New #[] vh1 fun r3 vh3 =>
      ∃ c3 : Option Addr, r3 = .pointer c3 ∧
      HCalls Try.prog fn_crc_New #[] vh3 fun r4 vh4 =>
      ∃ c4 : Option Addr, r4 = .pointer c4 ∧
      let vh5 := alc vh4 [.int .u8 (1 : Int), .int .u8 (2 : Int), .int .u8 (3 : Int)] 5;
      HCalls Try.prog fn_crc_Sum_Add #[.pointer c4, .slice (Sl.mk (some (nw vh4)) 3 3).base (Sl.mk (some (nw vh4)) 3 3).len (Sl.mk (some (nw vh4)) 3 3).cap] vh5 fun r5 vh6 =>
      ∃ c5 : Option Addr, r5 = .pointer c5 ∧
      let vh7 := alc vh6 [.int .u32 (0 : Int)] 37;
      ∃ (vI : Sl → Int → Nat → Hp → Prop) (n : Nat), vI Sl.nil (0 : Int) n vh7 ∧
      ∀ _junk : Nat → Value, ∀ all : Sl, ∀ i : Int, ∀ (n1 : Nat) (vh8 : Hp), vI all i n1 vh8 →
      IfB (decide (i < (l.len : Int))) (∃ a : Addr, l.base = some a ∧ 0 ≤ i ∧ i < (l.len : Int) ∧
        ∃ c6 : Sl, hcell vh8 (a.add ((i).toNat * 1)) = some (.slice c6.base c6.len c6.cap) ∧
        HCalls Try.prog fn_crc_Sum_Add #[.pointer c3, .slice c6.base c6.len c6.cap] vh8 fun r6 vh9 =>
        ∃ c7 : Option Addr, r6 = .pointer c7 ∧
        c7 = c3 ∧
        IfB false (R (.bool false) vh9)
        (∃ a1 : Addr, l.base = some a1 ∧ 0 ≤ i ∧ i < (l.len : Int) ∧
          ∃ c8 : Sl, hcell vh9 (a1.add ((i).toNat * 1)) = some (.slice c8.base c8.len c8.cap) ∧
          HCalls Try.prog fn_crc_Sum_Add #[.pointer (some (nw vh6)), .slice c8.base c8.len c8.cap] vh9 fun r7 vh10 =>
          ∃ c9 : Option Addr, r7 = .pointer c9 ∧
          ∃ a2 : Addr, l.base = some a2 ∧ 0 ≤ i ∧ i < (l.len : Int) ∧
          ∃ c10 : Sl, hcell vh10 (a2.add ((i).toNat * 1)) = some (.slice c10.base c10.len c10.cap) ∧
          AppC 5 1 1 #[.int .u8 (0 : Int)] all c10 vh10 fun s vh11 =>
          HCalls Try.prog fn_crc_Sum_Value #[.pointer c3] vh11 fun r8 vh12 =>
          ∃ c11 : Int, r8 = .int .u32 c11 ∧
          HCalls Try.prog fn_scarpref6_Crc #[.slice s.base s.len s.cap] vh12 fun r9 vh13 =>
          ∃ c12 : Int, r9 = .int .u32 c12 ∧
          IfB (c11 != c12) (R (.bool false) vh13)
          (∃ n2, n2 < n1 ∧ vI s (iAdd .i64 i (1 : Int)) n2 vh13)))
      (HCalls Try.prog fn_crc_Sum_Value #[.pointer (some (nw vh6))] vh8 fun r10 vh14 =>
        ∃ c13 : Int, r10 = .int .u32 c13 ∧
        HCalls Try.prog fn_crc_Sum_Value #[.pointer c3] vh14 fun r11 vh15 =>
        ∃ c14 : Int, r11 = .int .u32 c14 ∧
        IfB (c13 == c14) (HCalls Try.prog fn_crc_Sum_Value #[.pointer c3] vh15 fun r12 vh16 =>
          ∃ c15 : Int, r12 = .int .u32 c15 ∧
          HCalls Try.prog fn_scarpref6_Crc #[.slice all.base all.len all.cap] vh16 fun r13 vh17 =>
          ∃ c16 : Int, r13 = .int .u32 c16 ∧
          IfB (c15 == c16) (HCalls Try.prog fn_crc_Sum_Value #[.pointer c5] vh17 fun r14 vh18 =>
            ∃ c17 : Int, r14 = .int .u32 c17 ∧
            let vh19 := alc vh18 [.int .u8 (1 : Int), .int .u8 (2 : Int), .int .u8 (3 : Int)] 5;
            HCalls Try.prog fn_scarpref6_Crc #[.slice (Sl.mk (some (nw vh18)) 3 3).base (Sl.mk (some (nw vh18)) 3 3).len (Sl.mk (some (nw vh18)) 3 3).cap] vh19 fun r15 vh20 =>
            ∃ c18 : Int, r15 = .int .u32 c18 ∧
            IfB (c17 == c18) (let vh21 := alc vh20 [.int .u8 (1 : Int)] 5;
              HCalls Try.prog fn_crc_Sum_Add #[.pointer none, .slice (Sl.mk (some (nw vh20)) 1 1).base (Sl.mk (some (nw vh20)) 1 1).len (Sl.mk (some (nw vh20)) 1 1).cap] vh21 fun r16 vh22 =>
              ∃ c19 : Option Addr, r16 = .pointer c19 ∧
              IfB (isNone? c19) (HCalls Try.prog fn_crc_Sum_Value #[.pointer none] vh22 fun r17 vh23 =>
                ∃ c20 : Int, r17 = .int .u32 c20 ∧
                IfB (c20 == (0 : Int)) (HCalls Try.prog fn_scarplaw7_awake #[] vh23 fun r18 vh24 =>
                  ∃ c21 : Bool, r18 = .bool c21 ∧
                  R (.bool c21) vh24)
                (R (.bool false) vh23))
              (R (.bool false) vh22))
            (R (.bool false) vh20))
          (R (.bool false) vh17))
        (R (.bool false) vh15))))
theorem scarplaw7_CrcPieces_vc {l : Sl} {h : Hp} {R : Value → Hp → Prop} (H : vcscarplaw7_CrcPieces l h R) : HCalls Try.prog fn_scarplaw7_CrcPieces #[.slice l.base l.len l.cap] h R :=
  vc_fn (annOf [(0, [(7, .sl), (8, .int .i64)])] []) Try.func5 [.slice l.base l.len l.cap] (by kernel_rfl) (V := vcscarplaw7_CrcPieces l h R) (by kernel_rfl) H

def vcscarplaw7_CrcFlips (b : Sl) (i : Int) (j : Int) (x : Int) (h : Hp) (R : Value → Hp → Prop) : Prop :=
  IfB (decide ((b.len : Int) > (200 : Int))) (HCalls Try.prog fn_scarplaw7_awake #[] h fun r vh =>
    ∃ c : Bool, r = .bool c ∧
    R (.bool c) vh)
  (IfB ((b.len : Int) == (0 : Int)) (HCalls Try.prog fn_scarplaw7_awake #[] h fun r1 vh1 =>
      ∃ c1 : Bool, r1 = .bool c1 ∧
      R (.bool c1) vh1)
    (HCalls Try.prog fn_crc_Of #[.slice b.base b.len b.cap] h fun r2 vh2 =>
      ∃ c2 : Int, r2 = .int .u32 c2 ∧
      HCalls Try.prog fn_scarpalike_Round #[.int .i64 i, .int .i64 (iMul .i64 (8 : Int) (b.len : Int))] vh2 fun r3 vh3 =>
      ∃ c3 : Int, r3 = .int .i64 c3 ∧
      HCalls Try.prog fn_scarpalike_Round #[.int .i64 j, .int .i64 (iMul .i64 (8 : Int) (b.len : Int))] vh3 fun r4 vh4 =>
      ∃ c4 : Int, r4 = .int .i64 c4 ∧
      let vh5 := alc vh4 [] 5;
      AppC 5 1 1 #[.int .u8 (0 : Int)] (Sl.mk (some (nw vh4)) 0 0) b vh5 fun s vh6 =>
      (8 : Int) ≠ 0 ∧
      (8 : Int) ≠ 0 ∧
      ∃ a : Addr, s.base = some a ∧ 0 ≤ (iQuo .i64 c3 (8 : Int)) ∧ (iQuo .i64 c3 (8 : Int)) < (s.len : Int) ∧
      ∃ c5 : Int, hcell vh6 (a.add (((iQuo .i64 c3 (8 : Int))).toNat * 1)) = some (.int .u8 c5) ∧
      (8 : Int) ≠ 0 ∧
      0 ≤ (iRem c3 (8 : Int)) ∧
      ∃ a1 : Addr, s.base = some a1 ∧ 0 ≤ (iQuo .i64 c3 (8 : Int)) ∧ (iQuo .i64 c3 (8 : Int)) < (s.len : Int) ∧
      StOk vh6 (a1.add (((iQuo .i64 c3 (8 : Int))).toNat * 1)) ∧
      let vh7 := hset vh6 (a1.add (((iQuo .i64 c3 (8 : Int))).toNat * 1)) (.int .u8 (iXor .u8 c5 (iShl .u8 (1 : Int) (iRem c3 (8 : Int)))));
      HCalls Try.prog fn_crc_Of #[.slice s.base s.len s.cap] vh7 fun r5 vh8 =>
      ∃ c6 : Int, r5 = .int .u32 c6 ∧
      (8 : Int) ≠ 0 ∧
      (8 : Int) ≠ 0 ∧
      ∃ a2 : Addr, s.base = some a2 ∧ 0 ≤ (iQuo .i64 c4 (8 : Int)) ∧ (iQuo .i64 c4 (8 : Int)) < (s.len : Int) ∧
      ∃ c7 : Int, hcell vh8 (a2.add (((iQuo .i64 c4 (8 : Int))).toNat * 1)) = some (.int .u8 c7) ∧
      (8 : Int) ≠ 0 ∧
      0 ≤ (iRem c4 (8 : Int)) ∧
      ∃ a3 : Addr, s.base = some a3 ∧ 0 ≤ (iQuo .i64 c4 (8 : Int)) ∧ (iQuo .i64 c4 (8 : Int)) < (s.len : Int) ∧
      StOk vh8 (a3.add (((iQuo .i64 c4 (8 : Int))).toNat * 1)) ∧
      let vh9 := hset vh8 (a3.add (((iQuo .i64 c4 (8 : Int))).toNat * 1)) (.int .u8 (iXor .u8 c7 (iShl .u8 (1 : Int) (iRem c4 (8 : Int)))));
      HCalls Try.prog fn_crc_Of #[.slice s.base s.len s.cap] vh9 fun r6 vh10 =>
      ∃ c8 : Int, r6 = .int .u32 c8 ∧
      let vh11 := alc vh10 [] 5;
      AppC 5 1 1 #[.int .u8 (0 : Int)] (Sl.mk (some (nw vh10)) 0 0) b vh11 fun s1 vh12 =>
      (8 : Int) ≠ 0 ∧
      (8 : Int) ≠ 0 ∧
      ∃ a4 : Addr, s1.base = some a4 ∧ 0 ≤ (iQuo .i64 c3 (8 : Int)) ∧ (iQuo .i64 c3 (8 : Int)) < (s1.len : Int) ∧
      ∃ c9 : Int, hcell vh12 (a4.add (((iQuo .i64 c3 (8 : Int))).toNat * 1)) = some (.int .u8 c9) ∧
      HCalls Try.prog fn_scarpalike_Round #[.int .i64 x, .int .i64 (255 : Int)] vh12 fun r7 vh13 =>
      ∃ c10 : Int, r7 = .int .i64 c10 ∧
      Ext vh12 vh13 ∧
      ∃ a5 : Addr, s1.base = some a5 ∧ 0 ≤ (iQuo .i64 c3 (8 : Int)) ∧ (iQuo .i64 c3 (8 : Int)) < (s1.len : Int) ∧
      StOk vh13 (a5.add (((iQuo .i64 c3 (8 : Int))).toNat * 1)) ∧
      let vh14 := hset vh13 (a5.add (((iQuo .i64 c3 (8 : Int))).toNat * 1)) (.int .u8 (iXor .u8 c9 (iConv .u8 (iAdd .i64 c10 (1 : Int)))));
      IfB (c6 != c2) (IfB ((c8 != c2) == (c3 != c4)) (HCalls Try.prog fn_crc_Of #[.slice s1.base s1.len s1.cap] vh14 fun r8 vh15 =>
          ∃ c11 : Int, r8 = .int .u32 c11 ∧
          IfB (c11 != c2) (HCalls Try.prog fn_scarplaw7_awake #[] vh15 fun r9 vh16 =>
            ∃ c12 : Bool, r9 = .bool c12 ∧
            R (.bool c12) vh16)
          (R (.bool false) vh15))
        (R (.bool false) vh14))
      (R (.bool false) vh14)))
theorem scarplaw7_CrcFlips_vc {b : Sl} {i : Int} {j : Int} {x : Int} {h : Hp} {R : Value → Hp → Prop} (H : vcscarplaw7_CrcFlips b i j x h R) : HCalls Try.prog fn_scarplaw7_CrcFlips #[.slice b.base b.len b.cap, .int .i64 i, .int .i64 j, .int .i64 x] h R :=
  vc_fn (annOf [] []) Try.func6 [.slice b.base b.len b.cap, .int .i64 i, .int .i64 j, .int .i64 x] (by kernel_rfl) (V := vcscarplaw7_CrcFlips b i j x h R) (by kernel_rfl) H

def vcscarplaw7_CrcAdds (a : Sl) (b : Sl) (c : Sl) (h : Hp) (R : Value → Hp → Prop) : Prop :=
  IfB (decide ((a.len : Int) > (2000 : Int))) (HCalls Try.prog fn_scarplaw7_awake #[] h fun r vh =>
    ∃ c1 : Bool, r = .bool c1 ∧
    R (.bool c1) vh)
  (IfB ((b.len : Int) != (a.len : Int)) (HCalls Try.prog fn_scarplaw7_awake #[] h fun r1 vh1 =>
      ∃ c2 : Bool, r1 = .bool c2 ∧
      R (.bool c2) vh1)
    (IfB ((c.len : Int) != (a.len : Int)) (HCalls Try.prog fn_scarplaw7_awake #[] h fun r2 vh2 =>
        ∃ c3 : Bool, r2 = .bool c3 ∧
        R (.bool c3) vh2)
      (∃ (vI : Sl → Int → Nat → Hp → Prop) (n : Nat), vI Sl.nil (0 : Int) n h ∧
        ∀ _junk : Nat → Value, ∀ d : Sl, ∀ i : Int, ∀ (n1 : Nat) (vh3 : Hp), vI d i n1 vh3 →
        IfB (decide (i < (a.len : Int))) (∃ a1 : Addr, a.base = some a1 ∧ 0 ≤ i ∧ i < (a.len : Int) ∧
          ∃ c4 : Int, hcell vh3 (a1.add ((i).toNat * 1)) = some (.int .u8 c4) ∧
          ∃ a2 : Addr, b.base = some a2 ∧ 0 ≤ i ∧ i < (b.len : Int) ∧
          ∃ c5 : Int, hcell vh3 (a2.add ((i).toNat * 1)) = some (.int .u8 c5) ∧
          ∃ a3 : Addr, c.base = some a3 ∧ 0 ≤ i ∧ i < (c.len : Int) ∧
          ∃ c6 : Int, hcell vh3 (a3.add ((i).toNat * 1)) = some (.int .u8 c6) ∧
          let vh4 := alc vh3 [.int .u8 (iXor .u8 (iXor .u8 c4 c5) c6)] 5;
          Ext vh3 vh4 ∧
          AppC 5 1 1 #[.int .u8 (0 : Int)] d (Sl.mk (some (nw vh3)) 1 1) vh4 fun s vh5 =>
          ∃ n2, n2 < n1 ∧ vI s (iAdd .i64 i (1 : Int)) n2 vh5)
        (HCalls Try.prog fn_crc_Of #[.slice d.base d.len d.cap] vh3 fun r3 vh6 =>
          ∃ c7 : Int, r3 = .int .u32 c7 ∧
          HCalls Try.prog fn_crc_Of #[.slice a.base a.len a.cap] vh6 fun r4 vh7 =>
          ∃ c8 : Int, r4 = .int .u32 c8 ∧
          HCalls Try.prog fn_crc_Of #[.slice b.base b.len b.cap] vh7 fun r5 vh8 =>
          ∃ c9 : Int, r5 = .int .u32 c9 ∧
          HCalls Try.prog fn_crc_Of #[.slice c.base c.len c.cap] vh8 fun r6 vh9 =>
          ∃ c10 : Int, r6 = .int .u32 c10 ∧
          IfB (c7 == (iXor .u32 (iXor .u32 c8 c9) c10)) (HCalls Try.prog fn_scarplaw7_awake #[] vh9 fun r7 vh10 =>
            ∃ c11 : Bool, r7 = .bool c11 ∧
            R (.bool c11) vh10)
          (R (.bool false) vh9)))))
theorem scarplaw7_CrcAdds_vc {a : Sl} {b : Sl} {c : Sl} {h : Hp} {R : Value → Hp → Prop} (H : vcscarplaw7_CrcAdds a b c h R) : HCalls Try.prog fn_scarplaw7_CrcAdds #[.slice a.base a.len a.cap, .slice b.base b.len b.cap, .slice c.base c.len c.cap] h R :=
  vc_fn (annOf [(0, [(7, .sl), (8, .int .i64)])] []) Try.func7 [.slice a.base a.len a.cap, .slice b.base b.len b.cap, .slice c.base c.len c.cap] (by kernel_rfl) (V := vcscarplaw7_CrcAdds a b c h R) (by kernel_rfl) H

def vcscarplaw7_CrcEnds (b : Sl) (h : Hp) (R : Value → Hp → Prop) : Prop :=
  IfB (decide ((b.len : Int) > (2000 : Int))) (HCalls Try.prog fn_scarplaw7_awake #[] h fun r vh =>
    ∃ c : Bool, r = .bool c ∧
    R (.bool c) vh)
  (HCalls Try.prog fn_crc_Of #[.slice b.base b.len b.cap] h fun r1 vh1 =>
    ∃ c1 : Int, r1 = .int .u32 c1 ∧
    let vh2 := alc vh1 [] 5;
    AppC 5 1 1 #[.int .u8 (0 : Int)] (Sl.mk (some (nw vh1)) 0 0) b vh2 fun s vh3 =>
    0 ≤ (8 : Int) ∧
    0 ≤ (16 : Int) ∧
    0 ≤ (24 : Int) ∧
    let vh4 := alc vh3 [.int .u8 (iConv .u8 c1), .int .u8 (iConv .u8 (iShr .u32 c1 (8 : Int))), .int .u8 (iConv .u8 (iShr .u32 c1 (16 : Int))), .int .u8 (iConv .u8 (iShr .u32 c1 (24 : Int)))] 5;
    AppC 5 1 1 #[.int .u8 (0 : Int)] s (Sl.mk (some (nw vh3)) 4 4) vh4 fun s1 vh5 =>
    let vh6 := alc vh5 [.int .u8 (0 : Int), .int .u8 (0 : Int), .int .u8 (0 : Int), .int .u8 (0 : Int)] 5;
    HCalls Try.prog fn_crc_Of #[.slice (Sl.mk (some (nw vh5)) 4 4).base (Sl.mk (some (nw vh5)) 4 4).len (Sl.mk (some (nw vh5)) 4 4).cap] vh6 fun r2 vh7 =>
    ∃ c2 : Int, r2 = .int .u32 c2 ∧
    HCalls Try.prog fn_crc_Of #[.slice s1.base s1.len s1.cap] vh7 fun r3 vh8 =>
    ∃ c3 : Int, r3 = .int .u32 c3 ∧
    IfB (c3 == c2) (HCalls Try.prog fn_crc_Of #[.slice Sl.nil.base Sl.nil.len Sl.nil.cap] vh8 fun r4 vh9 =>
      ∃ c4 : Int, r4 = .int .u32 c4 ∧
      IfB (c4 == (0 : Int)) (HCalls Try.prog fn_scarplaw7_awake #[] vh9 fun r5 vh10 =>
        ∃ c5 : Bool, r5 = .bool c5 ∧
        R (.bool c5) vh10)
      (R (.bool false) vh9))
    (R (.bool false) vh8))
theorem scarplaw7_CrcEnds_vc {b : Sl} {h : Hp} {R : Value → Hp → Prop} (H : vcscarplaw7_CrcEnds b h R) : HCalls Try.prog fn_scarplaw7_CrcEnds #[.slice b.base b.len b.cap] h R :=
  vc_fn (annOf [] []) Try.func8 [.slice b.base b.len b.cap] (by kernel_rfl) (V := vcscarplaw7_CrcEnds b h R) (by kernel_rfl) H

def vcscarplaw6_BitsHalves (v : Int) (h : Hp) (R : Value → Hp → Prop) : Prop :=
  HCalls Try.prog fn_bits_Put64 #[.int .u64 v] h fun r vh =>
  ∃ c : Sl, r = .slice c.base c.len c.cap ∧
  HCalls Try.prog fn_bits_Put32 #[.int .u32 (iConv .u32 v)] vh fun r1 vh1 =>
  ∃ c1 : Sl, r1 = .slice c1.base c1.len c1.cap ∧
  0 ≤ (32 : Int) ∧
  HCalls Try.prog fn_bits_Put32 #[.int .u32 (iConv .u32 (iShr .u64 v (32 : Int)))] vh1 fun r2 vh2 =>
  ∃ c2 : Sl, r2 = .slice c2.base c2.len c2.cap ∧
  IfB ((c.len : Int) != (8 : Int)) (R (.bool false) vh2)
  (IfB ((c1.len : Int) != (4 : Int)) (R (.bool false) vh2)
    (IfB ((c2.len : Int) != (4 : Int)) (R (.bool false) vh2)
      (HCalls Try.prog fn_bits_Get32 #[.slice c.base c.len c.cap] vh2 fun r3 vh3 =>
        ∃ c3 : Int, ∃ c4 : Bool, r3 = .tuple #[.int .u32 c3, .bool c4] ∧
        0 ≤ (4 : Int) ∧ (4 : Int) ≤ (c.len : Int) ∧ (c.len : Int) ≤ (c.cap : Int) ∧ (c.cap : Int) ≤ (c.cap : Int) ∧
        HCalls Try.prog fn_bits_Get32 #[.slice (cutSl c (4 : Int) (c.len : Int) (c.cap : Int) 1).base (cutSl c (4 : Int) (c.len : Int) (c.cap : Int) 1).len (cutSl c (4 : Int) (c.len : Int) (c.cap : Int) 1).cap] vh3 fun r4 vh4 =>
        ∃ c5 : Int, ∃ c6 : Bool, r4 = .tuple #[.int .u32 c5, .bool c6] ∧
        0 ≤ (0 : Int) ∧ (0 : Int) ≤ (4 : Int) ∧ (4 : Int) ≤ (c.cap : Int) ∧ (c.cap : Int) ≤ (c.cap : Int) ∧
        HCalls Try.prog fn_scarpalike_Bytes #[.slice (cutSl c (0 : Int) (4 : Int) (c.cap : Int) 1).base (cutSl c (0 : Int) (4 : Int) (c.cap : Int) 1).len (cutSl c (0 : Int) (4 : Int) (c.cap : Int) 1).cap, .slice c1.base c1.len c1.cap] vh4 fun r5 vh5 =>
        ∃ c7 : Bool, r5 = .bool c7 ∧
        IfB c7 (0 ≤ (4 : Int) ∧ (4 : Int) ≤ (c.len : Int) ∧ (c.len : Int) ≤ (c.cap : Int) ∧ (c.cap : Int) ≤ (c.cap : Int) ∧
          HCalls Try.prog fn_scarpalike_Bytes #[.slice (cutSl c (4 : Int) (c.len : Int) (c.cap : Int) 1).base (cutSl c (4 : Int) (c.len : Int) (c.cap : Int) 1).len (cutSl c (4 : Int) (c.len : Int) (c.cap : Int) 1).cap, .slice c2.base c2.len c2.cap] vh5 fun r6 vh6 =>
          ∃ c8 : Bool, r6 = .bool c8 ∧
          IfB c8 (∃ a : Addr, c.base = some a ∧ 0 ≤ (0 : Int) ∧ (0 : Int) < (c.len : Int) ∧
            ∃ c9 : Int, hcell vh6 (a.add (((0 : Int)).toNat * 1)) = some (.int .u8 c9) ∧
            IfB (c9 == (iConv .u8 v)) (IfB c4 (IfB c6 (IfB (c3 == (iConv .u32 v)) (0 ≤ (32 : Int) ∧
                    IfB (c5 == (iConv .u32 (iShr .u64 v (32 : Int)))) (HCalls Try.prog fn_scarplaw6_awake #[] vh6 fun r7 vh7 =>
                      ∃ c10 : Bool, r7 = .bool c10 ∧
                      R (.bool c10) vh7)
                    (R (.bool false) vh6))
                  (R (.bool false) vh6))
                (R (.bool false) vh6))
              (R (.bool false) vh6))
            (R (.bool false) vh6))
          (R (.bool false) vh6))
        (R (.bool false) vh5))))
theorem scarplaw6_BitsHalves_vc {v : Int} {h : Hp} {R : Value → Hp → Prop} (H : vcscarplaw6_BitsHalves v h R) : HCalls Try.prog fn_scarplaw6_BitsHalves #[.int .u64 v] h R :=
  vc_fn (annOf [] []) Try.func9 [.int .u64 v] (by kernel_rfl) (V := vcscarplaw6_BitsHalves v h R) (by kernel_rfl) H

def vcscarplaw6_BitsApart (l : Sl) (h : Hp) (R : Value → Hp → Prop) : Prop :=
  IfB (decide ((l.len : Int) > (60 : Int))) (HCalls Try.prog fn_scarplaw6_awake #[] h fun r vh =>
    ∃ c : Bool, r = .bool c ∧
    R (.bool c) vh)
  (∃ (vI : Sl → Int → Nat → Hp → Prop) (n : Nat), vI Sl.nil (0 : Int) n h ∧
    ∀ _junk : Nat → Value, ∀ b : Sl, ∀ i : Int, ∀ (n1 : Nat) (vh1 : Hp), vI b i n1 vh1 →
    IfB (decide (i < (l.len : Int))) (∃ a : Addr, l.base = some a ∧ 0 ≤ i ∧ i < (l.len : Int) ∧
      ∃ c1 : Int, hcell vh1 (a.add ((i).toNat * 1)) = some (.int .u64 c1) ∧
      HCalls Try.prog fn_bits_Varint #[.int .u64 c1] vh1 fun r1 vh2 =>
      ∃ c2 : Sl, r1 = .slice c2.base c2.len c2.cap ∧
      AppC 5 1 1 #[.int .u8 (0 : Int)] b c2 vh2 fun s vh3 =>
      ∃ (vI1 : Int → Nat → Hp → Prop) (n3 : Nat), vI1 (0 : Int) n3 vh3 ∧
      ∀ _junk : Nat → Value, ∀ k : Int, ∀ (n4 : Nat) (vh4 : Hp), vI1 k n4 vh4 →
      IfB (decide (k < i)) (∃ a1 : Addr, l.base = some a1 ∧ 0 ≤ i ∧ i < (l.len : Int) ∧
        ∃ c3 : Int, hcell vh4 (a1.add ((i).toNat * 1)) = some (.int .u64 c3) ∧
        HCalls Try.prog fn_bits_Varint #[.int .u64 c3] vh4 fun r2 vh5 =>
        ∃ c4 : Sl, r2 = .slice c4.base c4.len c4.cap ∧
        ∃ a2 : Addr, l.base = some a2 ∧ 0 ≤ k ∧ k < (l.len : Int) ∧
        ∃ c5 : Int, hcell vh5 (a2.add ((k).toNat * 1)) = some (.int .u64 c5) ∧
        HCalls Try.prog fn_bits_Varint #[.int .u64 c5] vh5 fun r3 vh6 =>
        ∃ c6 : Sl, r3 = .slice c6.base c6.len c6.cap ∧
        0 ≤ (0 : Int) ∧ (0 : Int) ≤ (if (c6.len : Int) < (c4.len : Int) then (c6.len : Int) else (c4.len : Int)) ∧ (if (c6.len : Int) < (c4.len : Int) then (c6.len : Int) else (c4.len : Int)) ≤ (c4.cap : Int) ∧ (c4.cap : Int) ≤ (c4.cap : Int) ∧
        0 ≤ (0 : Int) ∧ (0 : Int) ≤ (if (c6.len : Int) < (c4.len : Int) then (c6.len : Int) else (c4.len : Int)) ∧ (if (c6.len : Int) < (c4.len : Int) then (c6.len : Int) else (c4.len : Int)) ≤ (c6.cap : Int) ∧ (c6.cap : Int) ≤ (c6.cap : Int) ∧
        ∃ a3 : Addr, l.base = some a3 ∧ 0 ≤ i ∧ i < (l.len : Int) ∧
        ∃ c7 : Int, hcell vh6 (a3.add ((i).toNat * 1)) = some (.int .u64 c7) ∧
        ∃ a4 : Addr, l.base = some a4 ∧ 0 ≤ k ∧ k < (l.len : Int) ∧
        ∃ c8 : Int, hcell vh6 (a4.add ((k).toNat * 1)) = some (.int .u64 c8) ∧
        HCalls Try.prog fn_scarpalike_Bytes #[.slice (cutSl c4 (0 : Int) (if (c6.len : Int) < (c4.len : Int) then (c6.len : Int) else (c4.len : Int)) (c4.cap : Int) 1).base (cutSl c4 (0 : Int) (if (c6.len : Int) < (c4.len : Int) then (c6.len : Int) else (c4.len : Int)) (c4.cap : Int) 1).len (cutSl c4 (0 : Int) (if (c6.len : Int) < (c4.len : Int) then (c6.len : Int) else (c4.len : Int)) (c4.cap : Int) 1).cap, .slice (cutSl c6 (0 : Int) (if (c6.len : Int) < (c4.len : Int) then (c6.len : Int) else (c4.len : Int)) (c6.cap : Int) 1).base (cutSl c6 (0 : Int) (if (c6.len : Int) < (c4.len : Int) then (c6.len : Int) else (c4.len : Int)) (c6.cap : Int) 1).len (cutSl c6 (0 : Int) (if (c6.len : Int) < (c4.len : Int) then (c6.len : Int) else (c4.len : Int)) (c6.cap : Int) 1).cap] vh6 fun r4 vh7 =>
        ∃ c9 : Bool, r4 = .bool c9 ∧
        Ext vh6 vh7 ∧
        IfB (!(c9 == (c7 == c8))) (R (.bool false) vh7)
        (∃ n5, n5 < n4 ∧ vI1 (iAdd .i64 k (1 : Int)) n5 vh7))
      (∃ n2, n2 < n1 ∧ vI s (iAdd .i64 i (1 : Int)) n2 vh4))
    (∃ (vI2 : Sl → Int → Nat → Hp → Prop) (n6 : Nat), vI2 b (0 : Int) n6 vh1 ∧
      ∀ _junk : Nat → Value, ∀ b1 : Sl, ∀ i1 : Int, ∀ (n7 : Nat) (vh8 : Hp), vI2 b1 i1 n7 vh8 →
      IfB (decide (i1 < (l.len : Int))) (HCalls Try.prog fn_bits_Unvarint #[.slice b1.base b1.len b1.cap] vh8 fun r5 vh9 =>
        ∃ c10 : Int, ∃ c11 : Int, r5 = .tuple #[.int .u64 c10, .int .i64 c11] ∧
        ∃ a5 : Addr, l.base = some a5 ∧ 0 ≤ i1 ∧ i1 < (l.len : Int) ∧
        ∃ c12 : Int, hcell vh9 (a5.add ((i1).toNat * 1)) = some (.int .u64 c12) ∧
        IfB (c10 != c12) (R (.bool false) vh9)
        (IfB (decide (c11 < (1 : Int))) (R (.bool false) vh9)
          (IfB (decide (c11 > (b1.len : Int))) (R (.bool false) vh9)
            (0 ≤ c11 ∧ c11 ≤ (b1.len : Int) ∧ (b1.len : Int) ≤ (b1.cap : Int) ∧ (b1.cap : Int) ≤ (b1.cap : Int) ∧
              ∃ n8, n8 < n7 ∧ vI2 (cutSl b1 c11 (b1.len : Int) (b1.cap : Int) 1) (iAdd .i64 i1 (1 : Int)) n8 vh9))))
      (IfB ((b1.len : Int) == (0 : Int)) (HCalls Try.prog fn_scarplaw6_awake #[] vh8 fun r6 vh10 =>
          ∃ c13 : Bool, r6 = .bool c13 ∧
          R (.bool c13) vh10)
        (R (.bool false) vh8))))
theorem scarplaw6_BitsApart_vc {l : Sl} {h : Hp} {R : Value → Hp → Prop} (H : vcscarplaw6_BitsApart l h R) : HCalls Try.prog fn_scarplaw6_BitsApart #[.slice l.base l.len l.cap] h R :=
  vc_fn (annOf [(0, [(3, .sl), (4, .int .i64)]), (1, [(5, .int .i64)]), (2, [(3, .sl), (9, .int .i64)])] []) Try.func10 [.slice l.base l.len l.cap] (by kernel_rfl) (V := vcscarplaw6_BitsApart l h R) (by kernel_rfl) H

def vcscarplaw6_BitsAsks (b : Sl) (v : Int) (w : Int) (h : Hp) (R : Value → Hp → Prop) : Prop :=
  IfB (decide ((b.len : Int) > (1000 : Int))) (HCalls Try.prog fn_scarplaw6_awake #[] h fun r vh =>
    ∃ c : Bool, r = .bool c ∧
    R (.bool c) vh)
  (HCalls Try.prog fn_bits_Unvarint #[.slice b.base b.len b.cap] h fun r1 vh1 =>
    ∃ c1 : Int, ∃ c2 : Int, r1 = .tuple #[.int .u64 c1, .int .i64 c2] ∧
    HCalls Try.prog fn_scarpref6_Unvarint #[.slice b.base b.len b.cap] vh1 fun r2 vh2 =>
    ∃ c3 : Int, ∃ c4 : Int, r2 = .tuple #[.int .u64 c3, .int .i64 c4] ∧
    HCalls Try.prog fn_bits_Get32 #[.slice b.base b.len b.cap] vh2 fun r3 vh3 =>
    ∃ c5 : Int, ∃ c6 : Bool, r3 = .tuple #[.int .u32 c5, .bool c6] ∧
    HCalls Try.prog fn_scarpref6_Get #[.slice b.base b.len b.cap, .int .i64 (4 : Int)] vh3 fun r4 vh4 =>
    ∃ c7 : Int, ∃ c8 : Bool, r4 = .tuple #[.int .u64 c7, .bool c8] ∧
    HCalls Try.prog fn_bits_Get64 #[.slice b.base b.len b.cap] vh4 fun r5 vh5 =>
    ∃ c9 : Int, ∃ c10 : Bool, r5 = .tuple #[.int .u64 c9, .bool c10] ∧
    HCalls Try.prog fn_scarpref6_Get #[.slice b.base b.len b.cap, .int .i64 (8 : Int)] vh5 fun r6 vh6 =>
    ∃ c11 : Int, ∃ c12 : Bool, r6 = .tuple #[.int .u64 c11, .bool c12] ∧
    HCalls Try.prog fn_bits_Varint #[.int .u64 v] vh6 fun r7 vh7 =>
    ∃ c13 : Sl, r7 = .slice c13.base c13.len c13.cap ∧
    HCalls Try.prog fn_scarpref6_Varint #[.int .u64 v] vh7 fun r8 vh8 =>
    ∃ c14 : Sl, r8 = .slice c14.base c14.len c14.cap ∧
    HCalls Try.prog fn_scarpalike_Bytes #[.slice c13.base c13.len c13.cap, .slice c14.base c14.len c14.cap] vh8 fun r9 vh9 =>
    ∃ c15 : Bool, r9 = .bool c15 ∧
    IfB c15 (HCalls Try.prog fn_bits_Put32 #[.int .u32 w] vh9 fun r10 vh10 =>
      ∃ c16 : Sl, r10 = .slice c16.base c16.len c16.cap ∧
      HCalls Try.prog fn_scarpref6_Put #[.int .u64 (iConv .u64 w), .int .i64 (4 : Int)] vh10 fun r11 vh11 =>
      ∃ c17 : Sl, r11 = .slice c17.base c17.len c17.cap ∧
      HCalls Try.prog fn_scarpalike_Bytes #[.slice c16.base c16.len c16.cap, .slice c17.base c17.len c17.cap] vh11 fun r12 vh12 =>
      ∃ c18 : Bool, r12 = .bool c18 ∧
      IfB c18 (HCalls Try.prog fn_bits_Put64 #[.int .u64 v] vh12 fun r13 vh13 =>
        ∃ c19 : Sl, r13 = .slice c19.base c19.len c19.cap ∧
        HCalls Try.prog fn_scarpref6_Put #[.int .u64 v, .int .i64 (8 : Int)] vh13 fun r14 vh14 =>
        ∃ c20 : Sl, r14 = .slice c20.base c20.len c20.cap ∧
        HCalls Try.prog fn_scarpalike_Bytes #[.slice c19.base c19.len c19.cap, .slice c20.base c20.len c20.cap] vh14 fun r15 vh15 =>
        ∃ c21 : Bool, r15 = .bool c21 ∧
        IfB c21 (IfB (c1 == c3) (IfB (c2 == c4) (IfB ((iConv .u64 c5) == c7) (IfB (c6 == c8) (IfB (c9 == c11) (IfB (c10 == c12) (HCalls Try.prog fn_scarplaw6_awake #[] vh15 fun r16 vh16 =>
                      ∃ c22 : Bool, r16 = .bool c22 ∧
                      R (.bool c22) vh16)
                    (R (.bool false) vh15))
                  (R (.bool false) vh15))
                (R (.bool false) vh15))
              (R (.bool false) vh15))
            (R (.bool false) vh15))
          (R (.bool false) vh15))
        (R (.bool false) vh15))
      (R (.bool false) vh12))
    (R (.bool false) vh9))
theorem scarplaw6_BitsAsks_vc {b : Sl} {v : Int} {w : Int} {h : Hp} {R : Value → Hp → Prop} (H : vcscarplaw6_BitsAsks b v w h R) : HCalls Try.prog fn_scarplaw6_BitsAsks #[.slice b.base b.len b.cap, .int .u64 v, .int .u32 w] h R :=
  vc_fn (annOf [] []) Try.func11 [.slice b.base b.len b.cap, .int .u64 v, .int .u32 w] (by kernel_rfl) (V := vcscarplaw6_BitsAsks b v w h R) (by kernel_rfl) H

def vcscarplaw6_BitsBack (v : Int) (w : Int) (behind : Sl) (cut : Int) (h : Hp) (R : Value → Hp → Prop) : Prop :=
  IfB (decide ((behind.len : Int) > (1000 : Int))) (HCalls Try.prog fn_scarplaw6_awake #[] h fun r vh =>
    ∃ c : Bool, r = .bool c ∧
    R (.bool c) vh)
  (HCalls Try.prog fn_bits_Varint #[.int .u64 v] h fun r1 vh1 =>
    ∃ c1 : Sl, r1 = .slice c1.base c1.len c1.cap ∧
    HCalls Try.prog fn_bits_Put64 #[.int .u64 v] vh1 fun r2 vh2 =>
    ∃ c2 : Sl, r2 = .slice c2.base c2.len c2.cap ∧
    HCalls Try.prog fn_bits_Put32 #[.int .u32 w] vh2 fun r3 vh3 =>
    ∃ c3 : Sl, r3 = .slice c3.base c3.len c3.cap ∧
    let vh4 := alc vh3 [] 5;
    AppC 5 1 1 #[.int .u8 (0 : Int)] (Sl.mk (some (nw vh3)) 0 0) c1 vh4 fun s vh5 =>
    AppC 5 1 1 #[.int .u8 (0 : Int)] s behind vh5 fun s1 vh6 =>
    HCalls Try.prog fn_bits_Unvarint #[.slice s1.base s1.len s1.cap] vh6 fun r4 vh7 =>
    ∃ c4 : Int, ∃ c5 : Int, r4 = .tuple #[.int .u64 c4, .int .i64 c5] ∧
    let vh8 := alc vh7 [] 5;
    AppC 5 1 1 #[.int .u8 (0 : Int)] (Sl.mk (some (nw vh7)) 0 0) c2 vh8 fun s2 vh9 =>
    AppC 5 1 1 #[.int .u8 (0 : Int)] s2 behind vh9 fun s3 vh10 =>
    HCalls Try.prog fn_bits_Get64 #[.slice s3.base s3.len s3.cap] vh10 fun r5 vh11 =>
    ∃ c6 : Int, ∃ c7 : Bool, r5 = .tuple #[.int .u64 c6, .bool c7] ∧
    let vh12 := alc vh11 [] 5;
    AppC 5 1 1 #[.int .u8 (0 : Int)] (Sl.mk (some (nw vh11)) 0 0) c3 vh12 fun s4 vh13 =>
    AppC 5 1 1 #[.int .u8 (0 : Int)] s4 behind vh13 fun s5 vh14 =>
    HCalls Try.prog fn_bits_Get32 #[.slice s5.base s5.len s5.cap] vh14 fun r6 vh15 =>
    ∃ c8 : Int, ∃ c9 : Bool, r6 = .tuple #[.int .u32 c8, .bool c9] ∧
    IfB (c4 != v) (R (.bool false) vh15)
    (IfB (c5 != (c1.len : Int)) (R (.bool false) vh15)
      (IfB (c6 != v) (R (.bool false) vh15)
        (IfB (!c7) (R (.bool false) vh15)
          (IfB (c8 != w) (R (.bool false) vh15)
            (IfB (!c9) (R (.bool false) vh15)
              (HCalls Try.prog fn_scarpalike_Round #[.int .i64 cut, .int .i64 (c1.len : Int)] vh15 fun r7 vh16 =>
                ∃ c10 : Int, r7 = .int .i64 c10 ∧
                0 ≤ (0 : Int) ∧ (0 : Int) ≤ c10 ∧ c10 ≤ (c1.cap : Int) ∧ (c1.cap : Int) ≤ (c1.cap : Int) ∧
                HCalls Try.prog fn_bits_Unvarint #[.slice (cutSl c1 (0 : Int) c10 (c1.cap : Int) 1).base (cutSl c1 (0 : Int) c10 (c1.cap : Int) 1).len (cutSl c1 (0 : Int) c10 (c1.cap : Int) 1).cap] vh16 fun r8 vh17 =>
                ∃ c11 : Int, ∃ c12 : Int, r8 = .tuple #[.int .u64 c11, .int .i64 c12] ∧
                HCalls Try.prog fn_scarpalike_Round #[.int .i64 cut, .int .i64 (8 : Int)] vh17 fun r9 vh18 =>
                ∃ c13 : Int, r9 = .int .i64 c13 ∧
                0 ≤ (0 : Int) ∧ (0 : Int) ≤ c13 ∧ c13 ≤ (c2.cap : Int) ∧ (c2.cap : Int) ≤ (c2.cap : Int) ∧
                HCalls Try.prog fn_bits_Get64 #[.slice (cutSl c2 (0 : Int) c13 (c2.cap : Int) 1).base (cutSl c2 (0 : Int) c13 (c2.cap : Int) 1).len (cutSl c2 (0 : Int) c13 (c2.cap : Int) 1).cap] vh18 fun r10 vh19 =>
                ∃ c14 : Int, ∃ c15 : Bool, r10 = .tuple #[.int .u64 c14, .bool c15] ∧
                HCalls Try.prog fn_scarpalike_Round #[.int .i64 cut, .int .i64 (4 : Int)] vh19 fun r11 vh20 =>
                ∃ c16 : Int, r11 = .int .i64 c16 ∧
                0 ≤ (0 : Int) ∧ (0 : Int) ≤ c16 ∧ c16 ≤ (c3.cap : Int) ∧ (c3.cap : Int) ≤ (c3.cap : Int) ∧
                HCalls Try.prog fn_bits_Get32 #[.slice (cutSl c3 (0 : Int) c16 (c3.cap : Int) 1).base (cutSl c3 (0 : Int) c16 (c3.cap : Int) 1).len (cutSl c3 (0 : Int) c16 (c3.cap : Int) 1).cap] vh20 fun r12 vh21 =>
                ∃ c17 : Int, ∃ c18 : Bool, r12 = .tuple #[.int .u32 c17, .bool c18] ∧
                IfB (c12 == (0 : Int)) (IfB (!c15) (IfB (!c18) (HCalls Try.prog fn_scarplaw6_awake #[] vh21 fun r13 vh22 =>
                      ∃ c19 : Bool, r13 = .bool c19 ∧
                      R (.bool c19) vh22)
                    (R (.bool false) vh21))
                  (R (.bool false) vh21))
                (R (.bool false) vh21))))))))
theorem scarplaw6_BitsBack_vc {v : Int} {w : Int} {behind : Sl} {cut : Int} {h : Hp} {R : Value → Hp → Prop} (H : vcscarplaw6_BitsBack v w behind cut h R) : HCalls Try.prog fn_scarplaw6_BitsBack #[.int .u64 v, .int .u32 w, .slice behind.base behind.len behind.cap, .int .i64 cut] h R :=
  vc_fn (annOf [] []) Try.func12 [.int .u64 v, .int .u32 w, .slice behind.base behind.len behind.cap, .int .i64 cut] (by kernel_rfl) (V := vcscarplaw6_BitsBack v w behind cut h R) (by kernel_rfl) H

def vcbits_Varint (v : Int) (h : Hp) (R : Value → Hp → Prop) : Prop :=
  ∃ (vI : Int → Sl → Nat → Hp → Prop) (n : Nat), vI v Sl.nil n h ∧
  ∀ _junk : Nat → Value, ∀ v1 : Int, ∀ out : Sl, ∀ (n1 : Nat) (vh : Hp), vI v1 out n1 vh →
  IfB (decide (v1 < (128 : Int))) (let vh1 := alc vh [.int .u8 (iConv .u8 v1)] 5;
    AppC 5 1 1 #[.int .u8 (0 : Int)] out (Sl.mk (some (nw vh)) 1 1) vh1 fun s vh2 =>
    R (.slice s.base s.len s.cap) vh2)
  (let vh3 := alc vh [.int .u8 (iOr .u8 (iConv .u8 v1) (128 : Int))] 5;
    AppC 5 1 1 #[.int .u8 (0 : Int)] out (Sl.mk (some (nw vh)) 1 1) vh3 fun s1 vh4 =>
    0 ≤ (7 : Int) ∧
    ∃ n2, n2 < n1 ∧ vI (iShr .u64 v1 (7 : Int)) s1 n2 vh4)
theorem bits_Varint_vc {v : Int} {h : Hp} {R : Value → Hp → Prop} (H : vcbits_Varint v h R) : HCalls Try.prog fn_bits_Varint #[.int .u64 v] h R :=
  vc_fn (annOf [(0, [(0, .int .u64), (3, .sl)])] []) Try.func13 [.int .u64 v] (by kernel_rfl) (V := vcbits_Varint v h R) (by kernel_rfl) H

def vcscarplaw6_awake (h : Hp) (R : Value → Hp → Prop) : Prop :=
  HCalls Try.prog fn_bits_Varint #[.int .u64 (300 : Int)] h fun r vh =>
  ∃ c : Sl, r = .slice c.base c.len c.cap ∧
  HCalls Try.prog fn_bits_Put32 #[.int .u32 (1 : Int)] vh fun r1 vh1 =>
  ∃ c1 : Sl, r1 = .slice c1.base c1.len c1.cap ∧
  IfB ((c.len : Int) == (2 : Int)) (∃ a : Addr, c.base = some a ∧ 0 ≤ (0 : Int) ∧ (0 : Int) < (c.len : Int) ∧
    ∃ c2 : Int, hcell vh1 (a.add (((0 : Int)).toNat * 1)) = some (.int .u8 c2) ∧
    IfB (c2 == (172 : Int)) (∃ a1 : Addr, c.base = some a1 ∧ 0 ≤ (1 : Int) ∧ (1 : Int) < (c.len : Int) ∧
      ∃ c3 : Int, hcell vh1 (a1.add (((1 : Int)).toNat * 1)) = some (.int .u8 c3) ∧
      IfB (c3 == (2 : Int)) (IfB ((c1.len : Int) == (4 : Int)) (∃ a2 : Addr, c1.base = some a2 ∧ 0 ≤ (0 : Int) ∧ (0 : Int) < (c1.len : Int) ∧
          ∃ c4 : Int, hcell vh1 (a2.add (((0 : Int)).toNat * 1)) = some (.int .u8 c4) ∧
          R (.bool (c4 == (1 : Int))) vh1)
        (R (.bool false) vh1))
      (R (.bool false) vh1))
    (R (.bool false) vh1))
  (R (.bool false) vh1)
theorem scarplaw6_awake_vc {h : Hp} {R : Value → Hp → Prop} (H : vcscarplaw6_awake h R) : HCalls Try.prog fn_scarplaw6_awake #[] h R :=
  vc_fn (annOf [] []) Try.func14 [] (by kernel_rfl) (V := vcscarplaw6_awake h R) (by kernel_rfl) H

def vcscarplaw7_awake (h : Hp) (R : Value → Hp → Prop) : Prop :=
  let vh := alc h [.int .u8 (49 : Int), .int .u8 (50 : Int), .int .u8 (51 : Int), .int .u8 (52 : Int), .int .u8 (53 : Int), .int .u8 (54 : Int), .int .u8 (55 : Int), .int .u8 (56 : Int), .int .u8 (57 : Int)] 5;
  ∃ a : Addr, (Sl.mk (some (nw h)) 9 9).base = some a ∧
  let vh1 := hstr vh a;
  HCalls Try.prog fn_crc_Of #[.slice (Sl.mk (some (nw h)) 9 9).base (Sl.mk (some (nw h)) 9 9).len (Sl.mk (some (nw h)) 9 9).cap] vh1 fun r vh2 =>
  ∃ c : Int, r = .int .u32 c ∧
  IfB (c == (3808858755 : Int)) (HCalls Try.prog fn_crc_Check #[.slice Sl.nil.base Sl.nil.len Sl.nil.cap, .int .u32 (1 : Int)] vh2 fun r1 vh3 =>
    ∃ c1 : Bool, r1 = .bool c1 ∧
    R (.bool (!c1)) vh3)
  (R (.bool false) vh2)
theorem scarplaw7_awake_vc {h : Hp} {R : Value → Hp → Prop} (H : vcscarplaw7_awake h R) : HCalls Try.prog fn_scarplaw7_awake #[] h R :=
  vc_fn (annOf [] []) Try.func15 [] (by kernel_rfl) (V := vcscarplaw7_awake h R) (by kernel_rfl) H

def vccrc_Of (b : Sl) (h : Hp) (R : Value → Hp → Prop) : Prop :=
  HCalls Try.prog fn_crc_New #[] h fun r vh =>
  ∃ c : Option Addr, r = .pointer c ∧
  HCalls Try.prog fn_crc_Sum_Add #[.pointer c, .slice b.base b.len b.cap] vh fun r1 vh1 =>
  ∃ c1 : Option Addr, r1 = .pointer c1 ∧
  HCalls Try.prog fn_crc_Sum_Value #[.pointer c1] vh1 fun r2 vh2 =>
  ∃ c2 : Int, r2 = .int .u32 c2 ∧
  R (.int .u32 c2) vh2
theorem crc_Of_vc {b : Sl} {h : Hp} {R : Value → Hp → Prop} (H : vccrc_Of b h R) : HCalls Try.prog fn_crc_Of #[.slice b.base b.len b.cap] h R :=
  vc_fn (annOf [] []) Try.func16 [.slice b.base b.len b.cap] (by kernel_rfl) (V := vccrc_Of b h R) (by kernel_rfl) H

def vcscarpref6_Crc (b : Sl) (h : Hp) (R : Value → Hp → Prop) : Prop :=
  ∃ (vI : Int → Int → Nat → Hp → Prop) (n : Nat), vI (4294967295 : Int) (0 : Int) n h ∧
  ∀ _junk : Nat → Value, ∀ r : Int, ∀ i : Int, ∀ (n1 : Nat) (vh : Hp), vI r i n1 vh →
  IfB (decide (i < (b.len : Int))) (∃ a : Addr, b.base = some a ∧ 0 ≤ i ∧ i < (b.len : Int) ∧
    ∃ c : Int, hcell vh (a.add ((i).toNat * 1)) = some (.int .u8 c) ∧
    ∃ (vI1 : Int → Int → Nat → Hp → Prop) (n3 : Nat), vI1 (iXor .u32 r (iConv .u32 c)) (0 : Int) n3 vh ∧
    ∀ _junk : Nat → Value, ∀ r1 : Int, ∀ k : Int, ∀ (n4 : Nat) (vh1 : Hp), vI1 r1 k n4 vh1 →
    IfB (decide (k < (8 : Int))) (IfB ((iAnd .u32 r1 (1 : Int)) == (1 : Int)) (0 ≤ (1 : Int) ∧
        ∃ n5, n5 < n4 ∧ vI1 (iXor .u32 (iShr .u32 r1 (1 : Int)) (2197175160 : Int)) (iAdd .i64 k (1 : Int)) n5 vh1)
      (0 ≤ (1 : Int) ∧
        ∃ n5, n5 < n4 ∧ vI1 (iShr .u32 r1 (1 : Int)) (iAdd .i64 k (1 : Int)) n5 vh1))
    (∃ n2, n2 < n1 ∧ vI r1 (iAdd .i64 i (1 : Int)) n2 vh1))
  (R (.int .u32 (iNot .u32 r)) vh)
theorem scarpref6_Crc_vc {b : Sl} {h : Hp} {R : Value → Hp → Prop} (H : vcscarpref6_Crc b h R) : HCalls Try.prog fn_scarpref6_Crc #[.slice b.base b.len b.cap] h R :=
  vc_fn (annOf [(0, [(3, .int .u32), (4, .int .i64)]), (1, [(3, .int .u32), (5, .int .i64)])] []) Try.func17 [.slice b.base b.len b.cap] (by kernel_rfl) (V := vcscarpref6_Crc b h R) (by kernel_rfl) H

def vccrc_Check (b : Sl) (sum : Int) (h : Hp) (R : Value → Hp → Prop) : Prop :=
  HCalls Try.prog fn_crc_Of #[.slice b.base b.len b.cap] h fun r vh =>
  ∃ c : Int, r = .int .u32 c ∧
  R (.bool (c == sum)) vh
theorem crc_Check_vc {b : Sl} {sum : Int} {h : Hp} {R : Value → Hp → Prop} (H : vccrc_Check b sum h R) : HCalls Try.prog fn_crc_Check #[.slice b.base b.len b.cap, .int .u32 sum] h R :=
  vc_fn (annOf [] []) Try.func18 [.slice b.base b.len b.cap, .int .u32 sum] (by kernel_rfl) (V := vccrc_Check b sum h R) (by kernel_rfl) H

def vcscarpalike_Total (l : Sl) (top : Int) (h : Hp) (R : Value → Hp → Prop) : Prop :=
  let vh := alc h [.int .i64 (l.len : Int)] 3;
  HCalls Try.prog fn_scarpalike_Sum #[.int .i64 (0 : Int), .slice (Sl.mk (some (nw h)) 1 1).base (Sl.mk (some (nw h)) 1 1).len (Sl.mk (some (nw h)) 1 1).cap] vh fun r vh1 =>
  ∃ c : Int, r = .int .i64 c ∧
  ∃ (vI : Int → Int → Nat → Hp → Prop) (n : Nat), vI c (0 : Int) n vh1 ∧
  ∀ _junk : Nat → Value, ∀ n3 : Int, ∀ i : Int, ∀ (n1 : Nat) (vh2 : Hp), vI n3 i n1 vh2 →
  IfB (decide (i < (l.len : Int))) (IfB (decide (n3 ≤ top)) (∃ a : Addr, l.base = some a ∧ 0 ≤ i ∧ i < (l.len : Int) ∧
      ∃ c1 : Sl, hcell vh2 (a.add ((i).toNat * 1)) = some (.slice c1.base c1.len c1.cap) ∧
      let vh3 := alc vh2 [.int .i64 (c1.len : Int)] 3;
      HCalls Try.prog fn_scarpalike_Sum #[.int .i64 n3, .slice (Sl.mk (some (nw vh2)) 1 1).base (Sl.mk (some (nw vh2)) 1 1).len (Sl.mk (some (nw vh2)) 1 1).cap] vh3 fun r1 vh4 =>
      ∃ c2 : Int, r1 = .int .i64 c2 ∧
      ∃ n2, n2 < n1 ∧ vI c2 (iAdd .i64 i (1 : Int)) n2 vh4)
    (R (.int .i64 n3) vh2))
  (R (.int .i64 n3) vh2)
theorem scarpalike_Total_vc {l : Sl} {top : Int} {h : Hp} {R : Value → Hp → Prop} (H : vcscarpalike_Total l top h R) : HCalls Try.prog fn_scarpalike_Total #[.slice l.base l.len l.cap, .int .i64 top] h R :=
  vc_fn (annOf [(0, [(5, .int .i64), (6, .int .i64)])] []) Try.func19 [.slice l.base l.len l.cap, .int .i64 top] (by kernel_rfl) (V := vcscarpalike_Total l top h R) (by kernel_rfl) H

def vccrc_New (h : Hp) (R : Value → Hp → Prop) : Prop :=
  let vh := alc h [.int .u32 (0 : Int)] 37;
  R (.pointer (some (nw h))) vh
theorem crc_New_vc {h : Hp} {R : Value → Hp → Prop} (H : vccrc_New h R) : HCalls Try.prog fn_crc_New #[] h R :=
  vc_fn (annOf [] []) Try.func20 [] (by kernel_rfl) (V := vccrc_New h R) (by kernel_rfl) H

def vccrc_Sum_Add (s : Option Addr) (b : Sl) (h : Hp) (R : Value → Hp → Prop) : Prop :=
  IfB (isNone? s) (R (.pointer none) h)
  (∃ a : Addr, s = some a ∧
    ∃ c : Int, hcell h a = some (.int .u32 c) ∧
    ∃ (vI : Int → Int → Nat → Hp → Prop) (n : Nat), vI (iNot .u32 c) (0 : Int) n h ∧
    ∀ _junk : Nat → Value, ∀ r : Int, ∀ t17 : Int, ∀ (n1 : Nat) (vh : Hp), vI r t17 n1 vh →
    IfB (decide (t17 < (b.len : Int))) (∃ a1 : Addr, b.base = some a1 ∧ 0 ≤ t17 ∧ t17 < (b.len : Int) ∧
      ∃ c1 : Int, hcell vh (a1.add ((t17).toNat * 1)) = some (.int .u8 c1) ∧
      ∃ (vI1 : Int → Int → Nat → Hp → Prop) (n3 : Nat), vI1 (iXor .u32 r (iConv .u32 c1)) (0 : Int) n3 vh ∧
      ∀ _junk : Nat → Value, ∀ r1 : Int, ∀ t25 : Int, ∀ (n4 : Nat) (vh1 : Hp), vI1 r1 t25 n4 vh1 →
      IfB (decide (t25 < (8 : Int))) (0 ≤ (1 : Int) ∧
        ∃ n5, n5 < n4 ∧ vI1 (iXor .u32 (iShr .u32 r1 (1 : Int)) (iAnd .u32 (2197175160 : Int) (iNeg .u32 (iAnd .u32 r1 (1 : Int))))) (iAdd .i64 t25 (1 : Int)) n5 vh1)
      (∃ n2, n2 < n1 ∧ vI r1 (iAdd .i64 t17 (1 : Int)) n2 vh1))
    (∃ a2 : Addr, s = some a2 ∧
      StOk vh a2 ∧
      let vh2 := hset vh a2 (.int .u32 (iNot .u32 r));
      R (.pointer s) vh2))
theorem crc_Sum_Add_vc {s : Option Addr} {b : Sl} {h : Hp} {R : Value → Hp → Prop} (H : vccrc_Sum_Add s b h R) : HCalls Try.prog fn_crc_Sum_Add #[.pointer s, .slice b.base b.len b.cap] h R :=
  vc_fn (annOf [(0, [(5, .int .u32), (17, .int .i64)]), (1, [(5, .int .u32), (25, .int .i64)])] []) Try.func21 [.pointer s, .slice b.base b.len b.cap] (by kernel_rfl) (V := vccrc_Sum_Add s b h R) (by kernel_rfl) H

def vccrc_Sum_Value (s : Option Addr) (h : Hp) (R : Value → Hp → Prop) : Prop :=
  IfB (isNone? s) (R (.int .u32 (0 : Int)) h)
  (∃ a : Addr, s = some a ∧
    ∃ c : Int, hcell h a = some (.int .u32 c) ∧
    R (.int .u32 c) h)
theorem crc_Sum_Value_vc {s : Option Addr} {h : Hp} {R : Value → Hp → Prop} (H : vccrc_Sum_Value s h R) : HCalls Try.prog fn_crc_Sum_Value #[.pointer s] h R :=
  vc_fn (annOf [] []) Try.func22 [.pointer s] (by kernel_rfl) (V := vccrc_Sum_Value s h R) (by kernel_rfl) H

def vcscarpalike_Round (k : Int) (n : Int) (h : Hp) (R : Value → Hp → Prop) : Prop :=
  n ≠ 0 ∧
  IfB (decide ((iRem k n) < (0 : Int))) (R (.int .i64 (iAdd .i64 (iRem k n) n)) h)
  (R (.int .i64 (iRem k n)) h)
theorem scarpalike_Round_vc {k : Int} {n : Int} {h : Hp} {R : Value → Hp → Prop} (H : vcscarpalike_Round k n h R) : HCalls Try.prog fn_scarpalike_Round #[.int .i64 k, .int .i64 n] h R :=
  vc_fn (annOf [] []) Try.func23 [.int .i64 k, .int .i64 n] (by kernel_rfl) (V := vcscarpalike_Round k n h R) (by kernel_rfl) H

def vcbits_Put64 (v : Int) (h : Hp) (R : Value → Hp → Prop) : Prop :=
  HCalls Try.prog fn_bits_put #[.int .u64 v, .int .i64 (8 : Int)] h fun r vh =>
  ∃ c : Sl, r = .slice c.base c.len c.cap ∧
  R (.slice c.base c.len c.cap) vh
theorem bits_Put64_vc {v : Int} {h : Hp} {R : Value → Hp → Prop} (H : vcbits_Put64 v h R) : HCalls Try.prog fn_bits_Put64 #[.int .u64 v] h R :=
  vc_fn (annOf [] []) Try.func24 [.int .u64 v] (by kernel_rfl) (V := vcbits_Put64 v h R) (by kernel_rfl) H

def vcbits_Put32 (v : Int) (h : Hp) (R : Value → Hp → Prop) : Prop :=
  HCalls Try.prog fn_bits_put #[.int .u64 (iConv .u64 v), .int .i64 (4 : Int)] h fun r vh =>
  ∃ c : Sl, r = .slice c.base c.len c.cap ∧
  R (.slice c.base c.len c.cap) vh
theorem bits_Put32_vc {v : Int} {h : Hp} {R : Value → Hp → Prop} (H : vcbits_Put32 v h R) : HCalls Try.prog fn_bits_Put32 #[.int .u32 v] h R :=
  vc_fn (annOf [] []) Try.func25 [.int .u32 v] (by kernel_rfl) (V := vcbits_Put32 v h R) (by kernel_rfl) H

def vcbits_Get32 (b : Sl) (h : Hp) (R : Value → Hp → Prop) : Prop :=
  HCalls Try.prog fn_bits_get #[.slice b.base b.len b.cap, .int .i64 (4 : Int)] h fun r vh =>
  ∃ c : Int, ∃ c1 : Bool, r = .tuple #[.int .u64 c, .bool c1] ∧
  R (.tuple #[.int .u32 (iConv .u32 c), .bool c1]) vh
theorem bits_Get32_vc {b : Sl} {h : Hp} {R : Value → Hp → Prop} (H : vcbits_Get32 b h R) : HCalls Try.prog fn_bits_Get32 #[.slice b.base b.len b.cap] h R :=
  vc_fn (annOf [] []) Try.func26 [.slice b.base b.len b.cap] (by kernel_rfl) (V := vcbits_Get32 b h R) (by kernel_rfl) H

def vcscarpalike_Bytes (a : Sl) (b : Sl) (h : Hp) (R : Value → Hp → Prop) : Prop :=
  IfB ((a.len : Int) != (b.len : Int)) (R (.bool false) h)
  (∃ (vI : Int → Nat → Hp → Prop) (n : Nat), vI (0 : Int) n h ∧
    ∀ _junk : Nat → Value, ∀ i : Int, ∀ (n1 : Nat) (vh : Hp), vI i n1 vh →
    IfB (decide (i < (a.len : Int))) (∃ a1 : Addr, a.base = some a1 ∧ 0 ≤ i ∧ i < (a.len : Int) ∧
      ∃ c : Int, hcell vh (a1.add ((i).toNat * 1)) = some (.int .u8 c) ∧
      ∃ a2 : Addr, b.base = some a2 ∧ 0 ≤ i ∧ i < (b.len : Int) ∧
      ∃ c1 : Int, hcell vh (a2.add ((i).toNat * 1)) = some (.int .u8 c1) ∧
      IfB (c != c1) (R (.bool false) vh)
      (∃ n2, n2 < n1 ∧ vI (iAdd .i64 i (1 : Int)) n2 vh))
    (R (.bool true) vh))
theorem scarpalike_Bytes_vc {a : Sl} {b : Sl} {h : Hp} {R : Value → Hp → Prop} (H : vcscarpalike_Bytes a b h R) : HCalls Try.prog fn_scarpalike_Bytes #[.slice a.base a.len a.cap, .slice b.base b.len b.cap] h R :=
  vc_fn (annOf [(0, [(5, .int .i64)])] []) Try.func27 [.slice a.base a.len a.cap, .slice b.base b.len b.cap] (by kernel_rfl) (V := vcscarpalike_Bytes a b h R) (by kernel_rfl) H

def vcbits_Unvarint (b : Sl) (h : Hp) (R : Value → Hp → Prop) : Prop :=
  ∃ (vI : Int → Int → Nat → Hp → Prop) (n : Nat), vI (0 : Int) (0 : Int) n h ∧
  ∀ _junk : Nat → Value, ∀ v : Int, ∀ n3 : Int, ∀ (n1 : Nat) (vh : Hp), vI v n3 n1 vh →
  IfB (decide (n3 ≥ (b.len : Int))) (R (.tuple #[.int .u64 (0 : Int), .int .i64 (0 : Int)]) vh)
  (IfB (decide (n3 ≥ (10 : Int))) (R (.tuple #[.int .u64 (0 : Int), .int .i64 (0 : Int)]) vh)
    (∃ a : Addr, b.base = some a ∧ 0 ≤ n3 ∧ n3 < (b.len : Int) ∧
      ∃ c : Int, hcell vh (a.add ((n3).toNat * 1)) = some (.int .u8 c) ∧
      0 ≤ (iMul .i64 (7 : Int) n3) ∧
      IfB (decide (c < (128 : Int))) (IfB ((iAdd .i64 n3 (1 : Int)) == (10 : Int)) (IfB (decide (c > (1 : Int))) (R (.tuple #[.int .u64 (0 : Int), .int .i64 (0 : Int)]) vh)
          (IfB (decide ((iAdd .i64 n3 (1 : Int)) > (1 : Int))) (IfB (c == (0 : Int)) (R (.tuple #[.int .u64 (0 : Int), .int .i64 (0 : Int)]) vh)
              (R (.tuple #[.int .u64 (iOr .u64 v (iShl .u64 (iConv .u64 (iAnd .u8 c (127 : Int))) (iMul .i64 (7 : Int) n3))), .int .i64 (iAdd .i64 n3 (1 : Int))]) vh))
            (R (.tuple #[.int .u64 (iOr .u64 v (iShl .u64 (iConv .u64 (iAnd .u8 c (127 : Int))) (iMul .i64 (7 : Int) n3))), .int .i64 (iAdd .i64 n3 (1 : Int))]) vh)))
        (IfB (decide ((iAdd .i64 n3 (1 : Int)) > (1 : Int))) (IfB (c == (0 : Int)) (R (.tuple #[.int .u64 (0 : Int), .int .i64 (0 : Int)]) vh)
            (R (.tuple #[.int .u64 (iOr .u64 v (iShl .u64 (iConv .u64 (iAnd .u8 c (127 : Int))) (iMul .i64 (7 : Int) n3))), .int .i64 (iAdd .i64 n3 (1 : Int))]) vh))
          (R (.tuple #[.int .u64 (iOr .u64 v (iShl .u64 (iConv .u64 (iAnd .u8 c (127 : Int))) (iMul .i64 (7 : Int) n3))), .int .i64 (iAdd .i64 n3 (1 : Int))]) vh)))
      (∃ n2, n2 < n1 ∧ vI (iOr .u64 v (iShl .u64 (iConv .u64 (iAnd .u8 c (127 : Int))) (iMul .i64 (7 : Int) n3))) (iAdd .i64 n3 (1 : Int)) n2 vh)))
theorem bits_Unvarint_vc {b : Sl} {h : Hp} {R : Value → Hp → Prop} (H : vcbits_Unvarint b h R) : HCalls Try.prog fn_bits_Unvarint #[.slice b.base b.len b.cap] h R :=
  vc_fn (annOf [(0, [(2, .int .u64), (3, .int .i64)])] []) Try.func28 [.slice b.base b.len b.cap] (by kernel_rfl) (V := vcbits_Unvarint b h R) (by kernel_rfl) H

def vcscarpref6_Unvarint (b : Sl) (h : Hp) (R : Value → Hp → Prop) : Prop :=
  ∃ (vI : Int → Int → Nat → Hp → Prop) (n : Nat), vI (0 : Int) (0 : Int) n h ∧
  ∀ _junk : Nat → Value, ∀ v : Int, ∀ i : Int, ∀ (n1 : Nat) (vh : Hp), vI v i n1 vh →
  IfB (decide (i < (b.len : Int))) (IfB (decide (i < (10 : Int))) (∃ a : Addr, b.base = some a ∧ 0 ≤ i ∧ i < (b.len : Int) ∧
      ∃ c : Int, hcell vh (a.add ((i).toNat * 1)) = some (.int .u8 c) ∧
      IfB (i == (9 : Int)) (IfB (decide (c > (1 : Int))) (R (.tuple #[.int .u64 (0 : Int), .int .i64 (0 : Int)]) vh)
        (0 ≤ (iMul .i64 (7 : Int) i) ∧
          IfB (decide (c < (128 : Int))) (IfB (c == (0 : Int)) (IfB (decide (i > (0 : Int))) (R (.tuple #[.int .u64 (0 : Int), .int .i64 (0 : Int)]) vh)
              (R (.tuple #[.int .u64 (iOr .u64 v (iShl .u64 (iConv .u64 (iAnd .u8 c (127 : Int))) (iMul .i64 (7 : Int) i))), .int .i64 (iAdd .i64 i (1 : Int))]) vh))
            (R (.tuple #[.int .u64 (iOr .u64 v (iShl .u64 (iConv .u64 (iAnd .u8 c (127 : Int))) (iMul .i64 (7 : Int) i))), .int .i64 (iAdd .i64 i (1 : Int))]) vh))
          (∃ n2, n2 < n1 ∧ vI (iOr .u64 v (iShl .u64 (iConv .u64 (iAnd .u8 c (127 : Int))) (iMul .i64 (7 : Int) i))) (iAdd .i64 i (1 : Int)) n2 vh)))
      (0 ≤ (iMul .i64 (7 : Int) i) ∧
        IfB (decide (c < (128 : Int))) (IfB (c == (0 : Int)) (IfB (decide (i > (0 : Int))) (R (.tuple #[.int .u64 (0 : Int), .int .i64 (0 : Int)]) vh)
            (R (.tuple #[.int .u64 (iOr .u64 v (iShl .u64 (iConv .u64 (iAnd .u8 c (127 : Int))) (iMul .i64 (7 : Int) i))), .int .i64 (iAdd .i64 i (1 : Int))]) vh))
          (R (.tuple #[.int .u64 (iOr .u64 v (iShl .u64 (iConv .u64 (iAnd .u8 c (127 : Int))) (iMul .i64 (7 : Int) i))), .int .i64 (iAdd .i64 i (1 : Int))]) vh))
        (∃ n2, n2 < n1 ∧ vI (iOr .u64 v (iShl .u64 (iConv .u64 (iAnd .u8 c (127 : Int))) (iMul .i64 (7 : Int) i))) (iAdd .i64 i (1 : Int)) n2 vh)))
    (R (.tuple #[.int .u64 (0 : Int), .int .i64 (0 : Int)]) vh))
  (R (.tuple #[.int .u64 (0 : Int), .int .i64 (0 : Int)]) vh)
theorem scarpref6_Unvarint_vc {b : Sl} {h : Hp} {R : Value → Hp → Prop} (H : vcscarpref6_Unvarint b h R) : HCalls Try.prog fn_scarpref6_Unvarint #[.slice b.base b.len b.cap] h R :=
  vc_fn (annOf [(0, [(4, .int .u64), (5, .int .i64)])] []) Try.func29 [.slice b.base b.len b.cap] (by kernel_rfl) (V := vcscarpref6_Unvarint b h R) (by kernel_rfl) H

def vcscarpref6_Get (b : Sl) (n : Int) (h : Hp) (R : Value → Hp → Prop) : Prop :=
  IfB (decide ((b.len : Int) < n)) (R (.tuple #[.int .u64 (0 : Int), .bool false]) h)
  (∃ (vI : Int → Int → Nat → Hp → Prop) (n1 : Nat), vI (0 : Int) (iSub .i64 n (1 : Int)) n1 h ∧
    ∀ _junk : Nat → Value, ∀ v : Int, ∀ i : Int, ∀ (n2 : Nat) (vh : Hp), vI v i n2 vh →
    IfB (decide (i ≥ (0 : Int))) (0 ≤ (8 : Int) ∧
      ∃ a : Addr, b.base = some a ∧ 0 ≤ i ∧ i < (b.len : Int) ∧
      ∃ c : Int, hcell vh (a.add ((i).toNat * 1)) = some (.int .u8 c) ∧
      ∃ n3, n3 < n2 ∧ vI (iOr .u64 (iShl .u64 v (8 : Int)) (iConv .u64 c)) (iSub .i64 i (1 : Int)) n3 vh)
    (R (.tuple #[.int .u64 v, .bool true]) vh))
theorem scarpref6_Get_vc {b : Sl} {n : Int} {h : Hp} {R : Value → Hp → Prop} (H : vcscarpref6_Get b n h R) : HCalls Try.prog fn_scarpref6_Get #[.slice b.base b.len b.cap, .int .i64 n] h R :=
  vc_fn (annOf [(0, [(6, .int .u64), (7, .int .i64)])] []) Try.func30 [.slice b.base b.len b.cap, .int .i64 n] (by kernel_rfl) (V := vcscarpref6_Get b n h R) (by kernel_rfl) H

def vcbits_Get64 (b : Sl) (h : Hp) (R : Value → Hp → Prop) : Prop :=
  HCalls Try.prog fn_bits_get #[.slice b.base b.len b.cap, .int .i64 (8 : Int)] h fun r vh =>
  ∃ c : Int, ∃ c1 : Bool, r = .tuple #[.int .u64 c, .bool c1] ∧
  R (.tuple #[.int .u64 c, .bool c1]) vh
theorem bits_Get64_vc {b : Sl} {h : Hp} {R : Value → Hp → Prop} (H : vcbits_Get64 b h R) : HCalls Try.prog fn_bits_Get64 #[.slice b.base b.len b.cap] h R :=
  vc_fn (annOf [] []) Try.func31 [.slice b.base b.len b.cap] (by kernel_rfl) (V := vcbits_Get64 b h R) (by kernel_rfl) H

def vcscarpref6_Varint (v : Int) (h : Hp) (R : Value → Hp → Prop) : Prop :=
  ∃ (vI : Int → Sl → Nat → Hp → Prop) (n : Nat), vI v Sl.nil n h ∧
  ∀ _junk : Nat → Value, ∀ v1 : Int, ∀ b : Sl, ∀ (n1 : Nat) (vh : Hp), vI v1 b n1 vh →
  IfB (decide (v1 ≥ (128 : Int))) (let vh1 := alc vh [.int .u8 (iConv .u8 (iOr .u64 (iAnd .u64 v1 (127 : Int)) (128 : Int)))] 5;
    AppC 5 1 1 #[.int .u8 (0 : Int)] b (Sl.mk (some (nw vh)) 1 1) vh1 fun s vh2 =>
    0 ≤ (7 : Int) ∧
    ∃ n2, n2 < n1 ∧ vI (iShr .u64 v1 (7 : Int)) s n2 vh2)
  (let vh3 := alc vh [.int .u8 (iConv .u8 v1)] 5;
    AppC 5 1 1 #[.int .u8 (0 : Int)] b (Sl.mk (some (nw vh)) 1 1) vh3 fun s1 vh4 =>
    R (.slice s1.base s1.len s1.cap) vh4)
theorem scarpref6_Varint_vc {v : Int} {h : Hp} {R : Value → Hp → Prop} (H : vcscarpref6_Varint v h R) : HCalls Try.prog fn_scarpref6_Varint #[.int .u64 v] h R :=
  vc_fn (annOf [(0, [(0, .int .u64), (3, .sl)])] []) Try.func32 [.int .u64 v] (by kernel_rfl) (V := vcscarpref6_Varint v h R) (by kernel_rfl) H

def vcscarpref6_Put (v : Int) (n : Int) (h : Hp) (R : Value → Hp → Prop) : Prop :=
  ∃ (vI : Sl → Int → Nat → Hp → Prop) (n1 : Nat), vI Sl.nil (0 : Int) n1 h ∧
  ∀ _junk : Nat → Value, ∀ b : Sl, ∀ i : Int, ∀ (n2 : Nat) (vh : Hp), vI b i n2 vh →
  IfB (decide (i < n)) (0 ≤ (iMul .i64 (8 : Int) i) ∧
    let vh1 := alc vh [.int .u8 (iConv .u8 (iShr .u64 v (iMul .i64 (8 : Int) i)))] 5;
    AppC 5 1 1 #[.int .u8 (0 : Int)] b (Sl.mk (some (nw vh)) 1 1) vh1 fun s vh2 =>
    ∃ n3, n3 < n2 ∧ vI s (iAdd .i64 i (1 : Int)) n3 vh2)
  (R (.slice b.base b.len b.cap) vh)
theorem scarpref6_Put_vc {v : Int} {n : Int} {h : Hp} {R : Value → Hp → Prop} (H : vcscarpref6_Put v n h R) : HCalls Try.prog fn_scarpref6_Put #[.int .u64 v, .int .i64 n] h R :=
  vc_fn (annOf [(0, [(5, .sl), (6, .int .i64)])] []) Try.func33 [.int .u64 v, .int .i64 n] (by kernel_rfl) (V := vcscarpref6_Put v n h R) (by kernel_rfl) H

def vcscarpalike_Sum (n : Int) (more : Sl) (h : Hp) (R : Value → Hp → Prop) : Prop :=
  ∃ (vI : Int → Int → Nat → Hp → Prop) (n1 : Nat), vI n (0 : Int) n1 h ∧
  ∀ _junk : Nat → Value, ∀ n4 : Int, ∀ i : Int, ∀ (n2 : Nat) (vh : Hp), vI n4 i n2 vh →
  IfB (decide (i < (more.len : Int))) (IfB (decide (n4 > (1099511627776 : Int))) (R (.int .i64 (1099511627776 : Int)) vh)
    (∃ a : Addr, more.base = some a ∧ 0 ≤ i ∧ i < (more.len : Int) ∧
      ∃ c : Int, hcell vh (a.add ((i).toNat * 1)) = some (.int .i64 c) ∧
      IfB (decide (c > (iSub .i64 (1099511627776 : Int) n4))) (R (.int .i64 (1099511627776 : Int)) vh)
      (∃ a1 : Addr, more.base = some a1 ∧ 0 ≤ i ∧ i < (more.len : Int) ∧
        ∃ c1 : Int, hcell vh (a1.add ((i).toNat * 1)) = some (.int .i64 c1) ∧
        ∃ n3, n3 < n2 ∧ vI (iAdd .i64 n4 c1) (iAdd .i64 i (1 : Int)) n3 vh)))
  (R (.int .i64 n4) vh)
theorem scarpalike_Sum_vc {n : Int} {more : Sl} {h : Hp} {R : Value → Hp → Prop} (H : vcscarpalike_Sum n more h R) : HCalls Try.prog fn_scarpalike_Sum #[.int .i64 n, .slice more.base more.len more.cap] h R :=
  vc_fn (annOf [(0, [(0, .int .i64), (5, .int .i64)])] []) Try.func34 [.int .i64 n, .slice more.base more.len more.cap] (by kernel_rfl) (V := vcscarpalike_Sum n more h R) (by kernel_rfl) H

def vcbits_put (v : Int) (n : Int) (h : Hp) (R : Value → Hp → Prop) : Prop :=
  MkC 5 1 #[.int .u8 (0 : Int)] n n h fun s vh =>
  ∃ (vI : Int → Nat → Hp → Prop) (n1 : Nat), vI (0 : Int) n1 vh ∧
  ∀ _junk : Nat → Value, ∀ t11 : Int, ∀ (n2 : Nat) (vh1 : Hp), vI t11 n2 vh1 →
  IfB (decide (t11 < (s.len : Int))) (0 ≤ (iMul .i64 (8 : Int) t11) ∧
    ∃ a : Addr, s.base = some a ∧ 0 ≤ t11 ∧ t11 < (s.len : Int) ∧
    StOk vh1 (a.add ((t11).toNat * 1)) ∧
    let vh2 := hset vh1 (a.add ((t11).toNat * 1)) (.int .u8 (iConv .u8 (iShr .u64 v (iMul .i64 (8 : Int) t11))));
    ∃ n3, n3 < n2 ∧ vI (iAdd .i64 t11 (1 : Int)) n3 vh2)
  (R (.slice s.base s.len s.cap) vh1)
theorem bits_put_vc {v : Int} {n : Int} {h : Hp} {R : Value → Hp → Prop} (H : vcbits_put v n h R) : HCalls Try.prog fn_bits_put #[.int .u64 v, .int .i64 n] h R :=
  vc_fn (annOf [(0, [(11, .int .i64)])] []) Try.func35 [.int .u64 v, .int .i64 n] (by kernel_rfl) (V := vcbits_put v n h R) (by kernel_rfl) H

def vcbits_get (b : Sl) (n : Int) (h : Hp) (R : Value → Hp → Prop) : Prop :=
  IfB (decide ((b.len : Int) < n)) (R (.tuple #[.int .u64 (0 : Int), .bool false]) h)
  (∃ (vI : Int → Int → Nat → Hp → Prop) (n1 : Nat), vI (0 : Int) (0 : Int) n1 h ∧
    ∀ _junk : Nat → Value, ∀ v : Int, ∀ t12 : Int, ∀ (n2 : Nat) (vh : Hp), vI v t12 n2 vh →
    IfB (decide (t12 < n)) (∃ a : Addr, b.base = some a ∧ 0 ≤ t12 ∧ t12 < (b.len : Int) ∧
      ∃ c : Int, hcell vh (a.add ((t12).toNat * 1)) = some (.int .u8 c) ∧
      0 ≤ (iMul .i64 (8 : Int) t12) ∧
      ∃ n3, n3 < n2 ∧ vI (iOr .u64 v (iShl .u64 (iConv .u64 c) (iMul .i64 (8 : Int) t12))) (iAdd .i64 t12 (1 : Int)) n3 vh)
    (R (.tuple #[.int .u64 v, .bool true]) vh))
theorem bits_get_vc {b : Sl} {n : Int} {h : Hp} {R : Value → Hp → Prop} (H : vcbits_get b n h R) : HCalls Try.prog fn_bits_get #[.slice b.base b.len b.cap, .int .i64 n] h R :=
  vc_fn (annOf [(0, [(4, .int .u64), (12, .int .i64)])] []) Try.func36 [.slice b.base b.len b.cap, .int .i64 n] (by kernel_rfl) (V := vcbits_get b n h R) (by kernel_rfl) H

end Go.Proofs.Ytkakpeojhjifgaa
