/-
  Conditions of functions, printed by a program of ours; the kernel checks each against vcFunc.
-/
import Derived.Test.YtehhkjgcklhfcaaRows
import Derived.Test.YtehhkjgcklhfcaaVc5
namespace Go.Proofs.Ytehhkjgcklhfcaa
set_option maxRecDepth 100000
set_option linter.unusedVariables false

abbrev fn_batch_Blocks : Nat := 14
abbrev fn_batch_Check : Nat := 11
abbrev fn_batch_Check_1 : Nat := 25
abbrev fn_batch_Decode : Nat := 16
abbrev fn_batch_Encode : Nat := 10
abbrev fn_batch_Form : Nat := 13
abbrev fn_batch_batch : Nat := 29
abbrev fn_batch_put : Nat := 26
abbrev fn_batch_row : Nat := 28
abbrev fn_bits_Get32 : Nat := 52
abbrev fn_bits_Get64 : Nat := 42
abbrev fn_bits_Put32 : Nat := 38
abbrev fn_bits_Put64 : Nat := 21
abbrev fn_bits_get : Nat := 55
abbrev fn_bits_put : Nat := 35
abbrev fn_crc_New : Nat := 49
abbrev fn_crc_Of : Nat := 39
abbrev fn_crc_Sum_Add : Nat := 50
abbrev fn_crc_Sum_Value : Nat := 51
abbrev fn_frame_Decode : Nat := 41
abbrev fn_frame_Encode : Nat := 22
abbrev fn_frame_within : Nat := 36
abbrev fn_scarpalike_Block : Nat := 20
abbrev fn_scarpalike_Data : Nat := 9
abbrev fn_scarpalike_Puts : Nat := 47
abbrev fn_scarpalike_Round : Nat := 12
abbrev fn_scarpalike_Sum : Nat := 27
abbrev fn_scarpalike_Total : Nat := 15
abbrev fn_scarpalike_Txs : Nat := 34
abbrev fn_scarplaw17_BatchBack : Nat := 6
abbrev fn_scarplaw17_BatchDecodes : Nat := 5
abbrev fn_scarplaw17_BatchForms : Nat := 4
abbrev fn_scarplaw17_BatchLimits : Nat := 3
abbrev fn_scarplaw17_BatchRow : Nat := 7
abbrev fn_scarplaw17_awake : Nat := 8
abbrev fn_scarplaw17_small : Nat := 19
abbrev fn_scarpref11_CheckBatch : Nat := 45
abbrev fn_scarpref11_DecodeBatch : Nat := 17
abbrev fn_scarpref11_EncodeBatch : Nat := 32
abbrev fn_scarpref11_Order : Nat := 57
abbrev fn_scarpref11_SameBatch : Nat := 18
abbrev fn_scarpref11_SamePuts : Nat := 33
abbrev fn_scarpref11_made : Nat := 31
abbrev fn_scarpref6_Crc : Nat := 56
abbrev fn_scarpref6_Decode : Nat := 30
abbrev fn_scarpref6_Encode : Nat := 44
abbrev fn_scarpref6_Get : Nat := 43
abbrev fn_scarpref6_Put : Nat := 46
abbrev fn_slices_Clone_sbytebyte : Nat := 53
abbrev fn_slices_Concat_sbytebyte : Nat := 37
abbrev fn_slices_ContainsFunc_sscarpapiPutscarpapiPut : Nat := 24
abbrev fn_slices_Equal_sbytebyte : Nat := 54
abbrev fn_slices_Grow_sbytebyte : Nat := 48
abbrev fn_slices_IndexFunc_sscarpapiPutscarpapiPut : Nat := 40
abbrev fn_valid_Order : Nat := 23
abbrev ty_int : Nat := 3
abbrev ty_uint8 : Nat := 5
abbrev ty_api_Batch : Nat := 25
abbrev ty_api_Tx : Nat := 28
abbrev ty_suint8 : Nat := 29
abbrev ty_api_Put : Nat := 32
abbrev ty_frame_Block : Nat := 61
abbrev ty_scarpref6_Block : Nat := 71
abbrev ty_crc_Sum : Nat := 103

def vcscarplaw17_BatchForms (sizes : Sl) (h : Hp) (R : Value → Hp → Prop) : Prop :=
  IfB (decide ((sizes.len : Int) > (100 : Int))) (HCalls Try.prog fn_scarplaw17_awake #[] h fun r vh =>
    ∃ c : Bool, r = .bool c ∧
    R (.bool c) vh)
  (∃ (vI : Sl → Int → Nat → Hp → Prop) (n : Nat), vI Sl.nil (0 : Int) n h ∧
    ∀ _junk : Nat → Value, ∀ q : Sl, ∀ i : Int, ∀ (n1 : Nat) (vh1 : Hp), vI q i n1 vh1 →
    IfB (decide (i < (sizes.len : Int))) (let vh2 := alc vh1 [.int .i64 (0 : Int), .slice Sl.nil.base Sl.nil.len Sl.nil.cap] ty_api_Tx;
      stCells (nw vh1) 0 [.int .i64 (iAdd .i64 i (1 : Int)), .slice Sl.nil.base Sl.nil.len Sl.nil.cap] vh2 fun vh3 =>
      ∃ (vI1 : Int → Nat → Hp → Prop) (n3 : Nat), vI1 (0 : Int) n3 vh3 ∧
      ∀ _junk : Nat → Value, ∀ k : Int, ∀ (n4 : Nat) (vh4 : Hp), vI1 k n4 vh4 →
      ∃ a : Addr, sizes.base = some a ∧ 0 ≤ i ∧ i < (sizes.len : Int) ∧
      ∃ c1 : Int, hcell vh4 (a.add ((i).toNat * 1)) = some (.int .i64 c1) ∧
      HCalls Try.prog fn_scarpalike_Round #[.int .i64 c1, .int .i64 (16 : Int)] vh4 fun r1 vh5 =>
      ∃ c2 : Int, r1 = .int .i64 c2 ∧
      IfB (decide (k ≤ c2)) (∃ c3 : Sl, hcell vh5 ((nw vh1).add 1) = some (.slice c3.base c3.len c3.cap) ∧
        HCalls Try.prog fn_scarpalike_Data #[.int .i64 k] vh5 fun r2 vh6 =>
        ∃ c4 : Sl, r2 = .slice c4.base c4.len c4.cap ∧
        Ext vh5 vh6 ∧
        let vh7 := alc vh6 [.int .i64 k, .slice c4.base c4.len c4.cap] ty_api_Put;
        Ext vh5 vh7 ∧
        AppC ty_api_Put 2 32 #[.int .i64 (0 : Int), .slice Sl.nil.base Sl.nil.len Sl.nil.cap] c3 (Sl.mk (some (nw vh6)) 1 1) vh7 fun s vh8 =>
        StOk vh8 ((nw vh1).add 1) ∧
        Lt (hset vh8 ((nw vh1).add 1) (.slice s.base s.len s.cap)) fun vh9 =>
        ∃ n5, n5 < n4 ∧ vI1 (iAdd .i64 k (1 : Int)) n5 vh9)
      (∃ c5 : Int, ∃ c6 : Sl, hcell vh5 ((nw vh1)) = some (.int .i64 c5) ∧ hcell vh5 ((nw vh1).add 1) = some (.slice c6.base c6.len c6.cap) ∧
        let vh10 := alc vh5 [.int .i64 c5, .slice c6.base c6.len c6.cap] ty_api_Tx;
        AppC ty_api_Tx 2 32 #[.int .i64 (0 : Int), .slice Sl.nil.base Sl.nil.len Sl.nil.cap] q (Sl.mk (some (nw vh5)) 1 1) vh10 fun s1 vh11 =>
        ∃ n2, n2 < n1 ∧ vI s1 (iAdd .i64 i (1 : Int)) n2 vh11))
    (∃ (vI2 : Sl → Int → Nat → Hp → Prop) (n6 : Nat), vI2 q (1 : Int) n6 vh1 ∧
      ∀ _junk : Nat → Value, ∀ q1 : Sl, ∀ num : Int, ∀ (n7 : Nat) (vh12 : Hp), vI2 q1 num n7 vh12 →
      IfB (decide ((q1.len : Int) > (0 : Int))) (HCalls Try.prog fn_batch_Form #[.slice q1.base q1.len q1.cap] vh12 fun r3 vh13 =>
        ∃ c7 : Int, r3 = .int .i64 c7 ∧
        IfB (decide (c7 < (1 : Int))) (R (.bool false) vh13)
        (IfB (decide (c7 > (q1.len : Int))) (R (.bool false) vh13)
          (IfB (decide (c7 > (8 : Int))) (R (.bool false) vh13)
            (0 ≤ (0 : Int) ∧ (0 : Int) ≤ c7 ∧ c7 ≤ (q1.cap : Int) ∧ (q1.cap : Int) ≤ (q1.cap : Int) ∧
              let vh14 := alc vh13 [.int .i64 (0 : Int), .slice Sl.nil.base Sl.nil.len Sl.nil.cap] ty_api_Batch;
              stCells (nw vh13) 0 [.int .i64 num, .slice (cutSl q1 (0 : Int) c7 (q1.cap : Int) 2).base (cutSl q1 (0 : Int) c7 (q1.cap : Int) 2).len (cutSl q1 (0 : Int) c7 (q1.cap : Int) 2).cap] vh14 fun vh15 =>
              ∃ c8 : Int, ∃ c9 : Sl, hcell vh15 ((nw vh13)) = some (.int .i64 c8) ∧ hcell vh15 ((nw vh13).add 1) = some (.slice c9.base c9.len c9.cap) ∧
              HCalls Try.prog fn_batch_Check #[.agg #[.int .i64 c8, .slice c9.base c9.len c9.cap]] vh15 fun r4 vh16 =>
              ∃ c10 : Int, r4 = .int .i64 c10 ∧
              IfB (c10 != (0 : Int)) (R (.bool false) vh16)
              (∃ c11 : Int, ∃ c12 : Sl, hcell vh16 ((nw vh13)) = some (.int .i64 c11) ∧ hcell vh16 ((nw vh13).add 1) = some (.slice c12.base c12.len c12.cap) ∧
                HCalls Try.prog fn_batch_Blocks #[.agg #[.int .i64 c11, .slice c12.base c12.len c12.cap]] vh16 fun r5 vh17 =>
                ∃ c13 : Int, r5 = .int .i64 c13 ∧
                IfB (decide (c13 > (33 : Int))) (R (.bool false) vh17)
                (IfB (decide (c7 < (q1.len : Int))) (IfB (decide (c7 < (8 : Int))) (∃ c14 : Int, ∃ c15 : Sl, hcell vh17 ((nw vh13)) = some (.int .i64 c14) ∧ hcell vh17 ((nw vh13).add 1) = some (.slice c15.base c15.len c15.cap) ∧
                      ∃ a1 : Addr, q1.base = some a1 ∧ 0 ≤ c7 ∧ c7 < (q1.len : Int) ∧
                      ∃ c16 : Sl, hcell vh17 ((a1.add ((c7).toNat * 2)).add 1) = some (.slice c16.base c16.len c16.cap) ∧
                      HCalls Try.prog fn_batch_Blocks #[.agg #[.int .i64 c14, .slice c15.base c15.len c15.cap]] vh17 fun r6 vh18 =>
                      ∃ c17 : Int, r6 = .int .i64 c17 ∧
                      Ext vh17 vh18 ∧
                      IfB (decide ((iAdd .i64 (iSub .i64 c17 (1 : Int)) (c16.len : Int)) ≤ (32 : Int))) (R (.bool false) vh18)
                      (0 ≤ c7 ∧ c7 ≤ (q1.len : Int) ∧ (q1.len : Int) ≤ (q1.cap : Int) ∧ (q1.cap : Int) ≤ (q1.cap : Int) ∧
                        ∃ n8, n8 < n7 ∧ vI2 (cutSl q1 c7 (q1.len : Int) (q1.cap : Int) 2) (iAdd .i64 num (1 : Int)) n8 vh18))
                    (0 ≤ c7 ∧ c7 ≤ (q1.len : Int) ∧ (q1.len : Int) ≤ (q1.cap : Int) ∧ (q1.cap : Int) ≤ (q1.cap : Int) ∧
                      ∃ n8, n8 < n7 ∧ vI2 (cutSl q1 c7 (q1.len : Int) (q1.cap : Int) 2) (iAdd .i64 num (1 : Int)) n8 vh17))
                  (0 ≤ c7 ∧ c7 ≤ (q1.len : Int) ∧ (q1.len : Int) ≤ (q1.cap : Int) ∧ (q1.cap : Int) ≤ (q1.cap : Int) ∧
                    ∃ n8, n8 < n7 ∧ vI2 (cutSl q1 c7 (q1.len : Int) (q1.cap : Int) 2) (iAdd .i64 num (1 : Int)) n8 vh17)))))))
      (HCalls Try.prog fn_batch_Form #[.slice Sl.nil.base Sl.nil.len Sl.nil.cap] vh12 fun r7 vh19 =>
        ∃ c18 : Int, r7 = .int .i64 c18 ∧
        IfB (c18 == (0 : Int)) (HCalls Try.prog fn_scarplaw17_awake #[] vh19 fun r8 vh20 =>
          ∃ c19 : Bool, r8 = .bool c19 ∧
          R (.bool c19) vh20)
        (R (.bool false) vh19))))
theorem scarplaw17_BatchForms_vc {sizes : Sl} {h : Hp} {R : Value → Hp → Prop} (H : vcscarplaw17_BatchForms sizes h R) : HCalls Try.prog fn_scarplaw17_BatchForms #[.slice sizes.base sizes.len sizes.cap] h R :=
  vc_fn (annOf [(0, [(3, .sl), (4, .int .i64)]), (1, [(6, .int .i64)]), (2, [(3, .sl), (7, .int .i64)])] []) Try.func4 [.slice sizes.base sizes.len sizes.cap] (by kernel_rfl) (V := vcscarplaw17_BatchForms sizes h R) (by kernel_rfl) H

def vcscarplaw17_BatchDecodes (l : Sl) (h : Hp) (R : Value → Hp → Prop) : Prop :=
  IfB (decide ((l.len : Int) > (60 : Int))) (HCalls Try.prog fn_scarplaw17_awake #[] h fun r vh =>
    ∃ c : Bool, r = .bool c ∧
    R (.bool c) vh)
  (HCalls Try.prog fn_scarpalike_Total #[.slice l.base l.len l.cap, .int .i64 (6000 : Int)] h fun r1 vh1 =>
    ∃ c1 : Int, r1 = .int .i64 c1 ∧
    IfB (decide (c1 > (6000 : Int))) (HCalls Try.prog fn_scarplaw17_awake #[] vh1 fun r2 vh2 =>
      ∃ c2 : Bool, r2 = .bool c2 ∧
      R (.bool c2) vh2)
    (HCalls Try.prog fn_batch_Decode #[.slice l.base l.len l.cap] vh1 fun r3 vh3 =>
      ∃ c3 : Int, ∃ c4 : Sl, ∃ c5 : Int, ∃ c6 : Int, ∃ c7 : Int, r3 = .tuple #[.agg #[.int .i64 c3, .slice c4.base c4.len c4.cap], .int .i64 c5, .int .i64 c6, .int .i64 c7] ∧
      let vh4 := alc vh3 [.int .i64 (0 : Int), .slice Sl.nil.base Sl.nil.len Sl.nil.cap] ty_api_Batch;
      stCells (nw vh3) 0 [.int .i64 c3, .slice c4.base c4.len c4.cap] vh4 fun vh5 =>
      HCalls Try.prog fn_scarpref11_DecodeBatch #[.slice l.base l.len l.cap] vh5 fun r4 vh6 =>
      ∃ c8 : Int, ∃ c9 : Sl, ∃ c10 : Int, ∃ c11 : Int, ∃ c12 : Int, r4 = .tuple #[.agg #[.int .i64 c8, .slice c9.base c9.len c9.cap], .int .i64 c10, .int .i64 c11, .int .i64 c12] ∧
      let vh7 := alc vh6 [.int .i64 (0 : Int), .slice Sl.nil.base Sl.nil.len Sl.nil.cap] ty_api_Batch;
      stCells (nw vh6) 0 [.int .i64 c8, .slice c9.base c9.len c9.cap] vh7 fun vh8 =>
      ∃ c13 : Int, ∃ c14 : Sl, hcell vh8 ((nw vh3)) = some (.int .i64 c13) ∧ hcell vh8 ((nw vh3).add 1) = some (.slice c14.base c14.len c14.cap) ∧
      ∃ c15 : Int, ∃ c16 : Sl, hcell vh8 ((nw vh6)) = some (.int .i64 c15) ∧ hcell vh8 ((nw vh6).add 1) = some (.slice c16.base c16.len c16.cap) ∧
      HCalls Try.prog fn_scarpref11_SameBatch #[.agg #[.int .i64 c13, .slice c14.base c14.len c14.cap], .agg #[.int .i64 c15, .slice c16.base c16.len c16.cap]] vh8 fun r5 vh9 =>
      ∃ c17 : Bool, r5 = .bool c17 ∧
      IfB c17 (IfB (c5 == c10) (IfB (c6 == c11) (IfB (c7 == c12) (HCalls Try.prog fn_scarplaw17_awake #[] vh9 fun r6 vh10 =>
              ∃ c18 : Bool, r6 = .bool c18 ∧
              R (.bool c18) vh10)
            (R (.bool false) vh9))
          (R (.bool false) vh9))
        (R (.bool false) vh9))
      (R (.bool false) vh9)))
theorem scarplaw17_BatchDecodes_vc {l : Sl} {h : Hp} {R : Value → Hp → Prop} (H : vcscarplaw17_BatchDecodes l h R) : HCalls Try.prog fn_scarplaw17_BatchDecodes #[.slice l.base l.len l.cap] h R :=
  vc_fn (annOf [] []) Try.func5 [.slice l.base l.len l.cap] (by kernel_rfl) (V := vcscarplaw17_BatchDecodes l h R) (by kernel_rfl) H

def vcscarplaw17_BatchBack (b : Int) (b1 : Sl) (epoch : Int) (behind : Sl) (cut : Int) (bit : Int) (h : Hp) (R : Value → Hp → Prop) : Prop :=
  let vh := alc h [.int .i64 b, .slice b1.base b1.len b1.cap] ty_api_Batch;
  ∃ c : Sl, hcell vh ((nw h).add 1) = some (.slice c.base c.len c.cap) ∧
  HCalls Try.prog fn_scarplaw17_small #[.slice c.base c.len c.cap] vh fun r vh1 =>
  ∃ c1 : Bool, r = .bool c1 ∧
  IfB (!c1) (HCalls Try.prog fn_scarplaw17_awake #[] vh1 fun r1 vh2 =>
    ∃ c2 : Bool, r1 = .bool c2 ∧
    R (.bool c2) vh2)
  (IfB (decide ((behind.len : Int) > (10 : Int))) (HCalls Try.prog fn_scarplaw17_awake #[] vh1 fun r2 vh3 =>
      ∃ c3 : Bool, r2 = .bool c3 ∧
      R (.bool c3) vh3)
    (HCalls Try.prog fn_scarpalike_Total #[.slice behind.base behind.len behind.cap, .int .i64 (1000 : Int)] vh1 fun r3 vh4 =>
      ∃ c4 : Int, r3 = .int .i64 c4 ∧
      IfB (decide (c4 > (1000 : Int))) (HCalls Try.prog fn_scarplaw17_awake #[] vh4 fun r4 vh5 =>
        ∃ c5 : Bool, r4 = .bool c5 ∧
        R (.bool c5) vh5)
      (∃ c6 : Int, ∃ c7 : Sl, hcell vh4 ((nw h)) = some (.int .i64 c6) ∧ hcell vh4 ((nw h).add 1) = some (.slice c7.base c7.len c7.cap) ∧
        HCalls Try.prog fn_batch_Encode #[.agg #[.int .i64 c6, .slice c7.base c7.len c7.cap], .int .i64 epoch] vh4 fun r5 vh6 =>
        ∃ c8 : Sl, ∃ c9 : Int, r5 = .tuple #[.slice c8.base c8.len c8.cap, .int .i64 c9] ∧
        IfB (c9 != (0 : Int)) (IfB ((c8.len : Int) == (0 : Int)) (HCalls Try.prog fn_scarplaw17_awake #[] vh6 fun r6 vh7 =>
            ∃ c10 : Bool, r6 = .bool c10 ∧
            R (.bool c10) vh7)
          (R (.bool false) vh6))
        (IfB (decide ((c8.len : Int) < (2 : Int))) (R (.bool false) vh6)
          (let vh8 := alc vh6 [] ty_suint8;
            AppC ty_suint8 1 24 #[.slice Sl.nil.base Sl.nil.len Sl.nil.cap] (Sl.mk (some (nw vh6)) 0 0) c8 vh8 fun s vh9 =>
            AppC ty_suint8 1 24 #[.slice Sl.nil.base Sl.nil.len Sl.nil.cap] s behind vh9 fun s1 vh10 =>
            HCalls Try.prog fn_batch_Decode #[.slice s1.base s1.len s1.cap] vh10 fun r7 vh11 =>
            ∃ c11 : Int, ∃ c12 : Sl, ∃ c13 : Int, ∃ c14 : Int, ∃ c15 : Int, r7 = .tuple #[.agg #[.int .i64 c11, .slice c12.base c12.len c12.cap], .int .i64 c13, .int .i64 c14, .int .i64 c15] ∧
            let vh12 := alc vh11 [.int .i64 (0 : Int), .slice Sl.nil.base Sl.nil.len Sl.nil.cap] ty_api_Batch;
            stCells (nw vh11) 0 [.int .i64 c11, .slice c12.base c12.len c12.cap] vh12 fun vh13 =>
            IfB (c15 != (0 : Int)) (R (.bool false) vh13)
            (IfB (c14 != (c8.len : Int)) (R (.bool false) vh13)
              (IfB (c13 != epoch) (R (.bool false) vh13)
                (∃ c16 : Int, ∃ c17 : Sl, hcell vh13 ((nw vh11)) = some (.int .i64 c16) ∧ hcell vh13 ((nw vh11).add 1) = some (.slice c17.base c17.len c17.cap) ∧
                  ∃ c18 : Int, ∃ c19 : Sl, hcell vh13 ((nw h)) = some (.int .i64 c18) ∧ hcell vh13 ((nw h).add 1) = some (.slice c19.base c19.len c19.cap) ∧
                  HCalls Try.prog fn_scarpref11_SameBatch #[.agg #[.int .i64 c16, .slice c17.base c17.len c17.cap], .agg #[.int .i64 c18, .slice c19.base c19.len c19.cap]] vh13 fun r8 vh14 =>
                  ∃ c20 : Bool, r8 = .bool c20 ∧
                  IfB (!c20) (R (.bool false) vh14)
                  (HCalls Try.prog fn_scarpalike_Round #[.int .i64 cut, .int .i64 (c8.len : Int)] vh14 fun r9 vh15 =>
                    ∃ c21 : Int, r9 = .int .i64 c21 ∧
                    0 ≤ (0 : Int) ∧ (0 : Int) ≤ c21 ∧ c21 ≤ (c8.cap : Int) ∧ (c8.cap : Int) ≤ (c8.cap : Int) ∧
                    HCalls Try.prog fn_batch_Decode #[.slice (cutSl c8 (0 : Int) c21 (c8.cap : Int) 1).base (cutSl c8 (0 : Int) c21 (c8.cap : Int) 1).len (cutSl c8 (0 : Int) c21 (c8.cap : Int) 1).cap] vh15 fun r10 vh16 =>
                    ∃ c22 : Int, ∃ c23 : Sl, ∃ c24 : Int, ∃ c25 : Int, ∃ c26 : Int, r10 = .tuple #[.agg #[.int .i64 c22, .slice c23.base c23.len c23.cap], .int .i64 c24, .int .i64 c25, .int .i64 c26] ∧
                    let vh17 := alc vh16 [.int .i64 (0 : Int), .slice Sl.nil.base Sl.nil.len Sl.nil.cap] ty_api_Batch;
                    stCells (nw vh16) 0 [.int .i64 c22, .slice c23.base c23.len c23.cap] vh17 fun vh18 =>
                    HCalls Try.prog fn_scarpalike_Round #[.int .i64 bit, .int .i64 (iMul .i64 (c8.len : Int) (512 : Int))] vh18 fun r11 vh19 =>
                    ∃ c27 : Int, r11 = .int .i64 c27 ∧
                    ∃ (vI : Sl → Int → Nat → Hp → Prop) (n : Nat), vI Sl.nil (0 : Int) n vh19 ∧
                    ∀ _junk : Nat → Value, ∀ turned : Sl, ∀ i : Int, ∀ (n1 : Nat) (vh20 : Hp), vI turned i n1 vh20 →
                    IfB (decide (i < (c8.len : Int))) (let vh21 := alc vh20 [] ty_uint8;
                      ∃ a : Addr, c8.base = some a ∧ 0 ≤ i ∧ i < (c8.len : Int) ∧
                      ∃ c28 : Sl, hcell vh21 (a.add ((i).toNat * 1)) = some (.slice c28.base c28.len c28.cap) ∧
                      AppC ty_uint8 1 1 #[.int .u8 (0 : Int)] (Sl.mk (some (nw vh20)) 0 0) c28 vh21 fun s2 vh22 =>
                      let vh23 := alc vh22 [.slice s2.base s2.len s2.cap] ty_suint8;
                      AppC ty_suint8 1 24 #[.slice Sl.nil.base Sl.nil.len Sl.nil.cap] turned (Sl.mk (some (nw vh22)) 1 1) vh23 fun s3 vh24 =>
                      ∃ n2, n2 < n1 ∧ vI s3 (iAdd .i64 i (1 : Int)) n2 vh24)
                    ((512 : Int) ≠ 0 ∧
                      ∃ a1 : Addr, turned.base = some a1 ∧ 0 ≤ (iQuo .i64 c27 (512 : Int)) ∧ (iQuo .i64 c27 (512 : Int)) < (turned.len : Int) ∧
                      ∃ c29 : Sl, hcell vh20 (a1.add (((iQuo .i64 c27 (512 : Int))).toNat * 1)) = some (.slice c29.base c29.len c29.cap) ∧
                      (512 : Int) ≠ 0 ∧
                      (8 : Int) ≠ 0 ∧
                      (512 : Int) ≠ 0 ∧
                      ∃ a2 : Addr, turned.base = some a2 ∧ 0 ≤ (iQuo .i64 c27 (512 : Int)) ∧ (iQuo .i64 c27 (512 : Int)) < (turned.len : Int) ∧
                      ∃ c30 : Sl, hcell vh20 (a2.add (((iQuo .i64 c27 (512 : Int))).toNat * 1)) = some (.slice c30.base c30.len c30.cap) ∧
                      (512 : Int) ≠ 0 ∧
                      (8 : Int) ≠ 0 ∧
                      ∃ a3 : Addr, c30.base = some a3 ∧ 0 ≤ (iQuo .i64 (iRem c27 (512 : Int)) (8 : Int)) ∧ (iQuo .i64 (iRem c27 (512 : Int)) (8 : Int)) < (c30.len : Int) ∧
                      ∃ c31 : Int, hcell vh20 (a3.add (((iQuo .i64 (iRem c27 (512 : Int)) (8 : Int))).toNat * 1)) = some (.int .u8 c31) ∧
                      (8 : Int) ≠ 0 ∧
                      0 ≤ (iRem c27 (8 : Int)) ∧
                      ∃ a4 : Addr, c29.base = some a4 ∧ 0 ≤ (iQuo .i64 (iRem c27 (512 : Int)) (8 : Int)) ∧ (iQuo .i64 (iRem c27 (512 : Int)) (8 : Int)) < (c29.len : Int) ∧
                      StOk vh20 (a4.add (((iQuo .i64 (iRem c27 (512 : Int)) (8 : Int))).toNat * 1)) ∧
                      Lt (hset vh20 (a4.add (((iQuo .i64 (iRem c27 (512 : Int)) (8 : Int))).toNat * 1)) (.int .u8 (iXor .u8 c31 (iShl .u8 (1 : Int) (iRem c27 (8 : Int)))))) fun vh25 =>
                      HCalls Try.prog fn_batch_Decode #[.slice turned.base turned.len turned.cap] vh25 fun r12 vh26 =>
                      ∃ c32 : Int, ∃ c33 : Sl, ∃ c34 : Int, ∃ c35 : Int, ∃ c36 : Int, r12 = .tuple #[.agg #[.int .i64 c32, .slice c33.base c33.len c33.cap], .int .i64 c34, .int .i64 c35, .int .i64 c36] ∧
                      let vh27 := alc vh26 [.int .i64 (0 : Int), .slice Sl.nil.base Sl.nil.len Sl.nil.cap] ty_api_Batch;
                      stCells (nw vh26) 0 [.int .i64 c32, .slice c33.base c33.len c33.cap] vh27 fun vh28 =>
                      IfB (c25 == (0 : Int)) (IfB (c26 == (14 : Int)) (IfB (c35 == (0 : Int)) (IfB (c36 == (13 : Int)) (HCalls Try.prog fn_scarplaw17_awake #[] vh28 fun r13 vh29 =>
                              ∃ c37 : Bool, r13 = .bool c37 ∧
                              R (.bool c37) vh29)
                            (R (.bool false) vh28))
                          (R (.bool false) vh28))
                        (R (.bool false) vh28))
                      (R (.bool false) vh28)))))))))))
theorem scarplaw17_BatchBack_vc {b : Int} {b1 : Sl} {epoch : Int} {behind : Sl} {cut : Int} {bit : Int} {h : Hp} {R : Value → Hp → Prop} (H : vcscarplaw17_BatchBack b b1 epoch behind cut bit h R) : HCalls Try.prog fn_scarplaw17_BatchBack #[.agg #[.int .i64 b, .slice b1.base b1.len b1.cap], .int .i64 epoch, .slice behind.base behind.len behind.cap, .int .i64 cut, .int .i64 bit] h R :=
  vc_fn (annOf [(0, [(22, .sl), (23, .int .i64)])] []) Try.func6 [.agg #[.int .i64 b, .slice b1.base b1.len b1.cap], .int .i64 epoch, .slice behind.base behind.len behind.cap, .int .i64 cut, .int .i64 bit] (by kernel_rfl) (V := vcscarplaw17_BatchBack b b1 epoch behind cut bit h R) (by kernel_rfl) H

def vcscarplaw17_awake (h : Hp) (R : Value → Hp → Prop) : Prop :=
  HCalls Try.prog fn_scarpalike_Data #[.int .i64 (1 : Int)] h fun r vh =>
  ∃ c : Sl, r = .slice c.base c.len c.cap ∧
  let vh1 := alc vh [.int .i64 (3 : Int), .slice c.base c.len c.cap] ty_api_Put;
  let vh2 := alc vh1 [.int .i64 (5 : Int), .slice (Sl.mk (some (nw vh)) 1 1).base (Sl.mk (some (nw vh)) 1 1).len (Sl.mk (some (nw vh)) 1 1).cap] ty_api_Tx;
  let vh3 := alc vh2 [.int .i64 (0 : Int), .slice Sl.nil.base Sl.nil.len Sl.nil.cap] ty_api_Batch;
  stCells (nw vh2) 0 [.int .i64 (1 : Int), .slice (Sl.mk (some (nw vh1)) 1 1).base (Sl.mk (some (nw vh1)) 1 1).len (Sl.mk (some (nw vh1)) 1 1).cap] vh3 fun vh4 =>
  ∃ c1 : Int, ∃ c2 : Sl, hcell vh4 ((nw vh2)) = some (.int .i64 c1) ∧ hcell vh4 ((nw vh2).add 1) = some (.slice c2.base c2.len c2.cap) ∧
  HCalls Try.prog fn_batch_Encode #[.agg #[.int .i64 c1, .slice c2.base c2.len c2.cap], .int .i64 (7 : Int)] vh4 fun r1 vh5 =>
  ∃ c3 : Sl, ∃ c4 : Int, r1 = .tuple #[.slice c3.base c3.len c3.cap, .int .i64 c4] ∧
  IfB (c4 == (0 : Int)) (IfB ((c3.len : Int) == (2 : Int)) (∃ a : Addr, c3.base = some a ∧ 0 ≤ (1 : Int) ∧ (1 : Int) < (c3.len : Int) ∧
      ∃ c5 : Sl, hcell vh5 (a.add (((1 : Int)).toNat * 1)) = some (.slice c5.base c5.len c5.cap) ∧
      IfB ((c5.len : Int) == (64 : Int)) (∃ a1 : Addr, c3.base = some a1 ∧ 0 ≤ (1 : Int) ∧ (1 : Int) < (c3.len : Int) ∧
        ∃ c6 : Sl, hcell vh5 (a1.add (((1 : Int)).toNat * 1)) = some (.slice c6.base c6.len c6.cap) ∧
        ∃ a2 : Addr, c6.base = some a2 ∧ 0 ≤ (0 : Int) ∧ (0 : Int) < (c6.len : Int) ∧
        ∃ c7 : Int, hcell vh5 (a2.add (((0 : Int)).toNat * 1)) = some (.int .u8 c7) ∧
        IfB (c7 == (2 : Int)) (∃ c8 : Int, ∃ c9 : Sl, hcell vh5 ((nw vh2)) = some (.int .i64 c8) ∧ hcell vh5 ((nw vh2).add 1) = some (.slice c9.base c9.len c9.cap) ∧
          HCalls Try.prog fn_batch_Blocks #[.agg #[.int .i64 c8, .slice c9.base c9.len c9.cap]] vh5 fun r2 vh6 =>
          ∃ c10 : Int, r2 = .int .i64 c10 ∧
          R (.bool (c10 == (2 : Int))) vh6)
        (R (.bool false) vh5))
      (R (.bool false) vh5))
    (R (.bool false) vh5))
  (R (.bool false) vh5)
theorem scarplaw17_awake_vc {h : Hp} {R : Value → Hp → Prop} (H : vcscarplaw17_awake h R) : HCalls Try.prog fn_scarplaw17_awake #[] h R :=
  vc_fn (annOf [] []) Try.func8 [] (by kernel_rfl) (V := vcscarplaw17_awake h R) (by kernel_rfl) H

def vcscarpalike_Data (k : Int) (h : Hp) (R : Value → Hp → Prop) : Prop :=
  HCalls Try.prog fn_scarpalike_Block #[.int .i64 (40 : Int), .int .i64 k] h fun r vh =>
  ∃ c : Sl, r = .slice c.base c.len c.cap ∧
  R (.slice c.base c.len c.cap) vh
theorem scarpalike_Data_vc {k : Int} {h : Hp} {R : Value → Hp → Prop} (H : vcscarpalike_Data k h R) : HCalls Try.prog fn_scarpalike_Data #[.int .i64 k] h R :=
  vc_fn (annOf [] []) Try.func9 [.int .i64 k] (by kernel_rfl) (V := vcscarpalike_Data k h R) (by kernel_rfl) H

def vcbatch_Check (b : Int) (b1 : Sl) (h : Hp) (R : Value → Hp → Prop) : Prop :=
  let vh := alc h [.int .i64 b, .slice b1.base b1.len b1.cap] ty_api_Batch;
  ∃ c : Int, hcell vh (nw h) = some (.int .i64 c) ∧
  IfB (decide (c < (1 : Int))) (R (.int .i64 (1 : Int)) vh)
  (∃ c1 : Int, hcell vh (nw h) = some (.int .i64 c1) ∧
    IfB (decide (c1 > (1099511627776 : Int))) (R (.int .i64 (1 : Int)) vh)
    (∃ c2 : Sl, hcell vh ((nw h).add 1) = some (.slice c2.base c2.len c2.cap) ∧
      IfB ((c2.len : Int) == (0 : Int)) (R (.int .i64 (1 : Int)) vh)
      (∃ c3 : Sl, hcell vh ((nw h).add 1) = some (.slice c3.base c3.len c3.cap) ∧
        IfB (decide ((c3.len : Int) > (8 : Int))) (R (.int .i64 (1 : Int)) vh)
        (∃ c4 : Sl, hcell vh ((nw h).add 1) = some (.slice c4.base c4.len c4.cap) ∧
          HCalls Try.prog fn_valid_Order #[.slice c4.base c4.len c4.cap] vh fun r vh1 =>
          ∃ c5 : Bool, r = .bool c5 ∧
          IfB (!c5) (R (.int .i64 (1 : Int)) vh1)
          (∃ c6 : Int, ∃ c7 : Sl, hcell vh1 ((nw h)) = some (.int .i64 c6) ∧ hcell vh1 ((nw h).add 1) = some (.slice c7.base c7.len c7.cap) ∧
            HCalls Try.prog fn_batch_Blocks #[.agg #[.int .i64 c6, .slice c7.base c7.len c7.cap]] vh1 fun r1 vh2 =>
            ∃ c8 : Int, r1 = .int .i64 c8 ∧
            IfB (decide (c8 > (33 : Int))) (R (.int .i64 (1 : Int)) vh2)
            (∃ c9 : Sl, hcell vh2 ((nw h).add 1) = some (.slice c9.base c9.len c9.cap) ∧
              ∃ (vI : Int → Nat → Hp → Prop) (n : Nat), vI (0 : Int) n vh2 ∧
              ∀ _junk : Nat → Value, ∀ t39 : Int, ∀ (n1 : Nat) (vh3 : Hp), vI t39 n1 vh3 →
              IfB (decide (t39 < (c9.len : Int))) (∃ a : Addr, c9.base = some a ∧ 0 ≤ t39 ∧ t39 < (c9.len : Int) ∧
                ∃ c10 : Int, ∃ c11 : Sl, hcell vh3 ((a.add ((t39).toNat * 2))) = some (.int .i64 c10) ∧ hcell vh3 ((a.add ((t39).toNat * 2)).add 1) = some (.slice c11.base c11.len c11.cap) ∧
                let vh4 := alc vh3 [.int .i64 (0 : Int), .slice Sl.nil.base Sl.nil.len Sl.nil.cap] ty_api_Tx;
                stCells (nw vh3) 0 [.int .i64 c10, .slice c11.base c11.len c11.cap] vh4 fun vh5 =>
                IfB (decide (t39 > (0 : Int))) (∃ c12 : Int, hcell vh5 (nw vh3) = some (.int .i64 c12) ∧
                  ∃ c13 : Sl, hcell vh5 ((nw h).add 1) = some (.slice c13.base c13.len c13.cap) ∧
                  ∃ a1 : Addr, c13.base = some a1 ∧ 0 ≤ (iSub .i64 t39 (1 : Int)) ∧ (iSub .i64 t39 (1 : Int)) < (c13.len : Int) ∧
                  ∃ c14 : Int, hcell vh5 (a1.add (((iSub .i64 t39 (1 : Int))).toNat * 2)) = some (.int .i64 c14) ∧
                  IfB (decide ((iSub .i64 c12 c14) > (65535 : Int))) (R (.int .i64 (1 : Int)) vh5)
                  (∃ c15 : Sl, hcell vh5 ((nw vh3).add 1) = some (.slice c15.base c15.len c15.cap) ∧
                    IfB (decide ((c15.len : Int) > (16 : Int))) (R (.int .i64 (1 : Int)) vh5)
                    (∃ c16 : Sl, hcell vh5 ((nw vh3).add 1) = some (.slice c16.base c16.len c16.cap) ∧
                      HCalls Try.prog fn_slices_ContainsFunc_sscarpapiPutscarpapiPut #[.slice c16.base c16.len c16.cap, .func (.func 25) #[] #[]] vh5 fun r2 vh6 =>
                      ∃ c17 : Bool, r2 = .bool c17 ∧
                      Ext vh5 vh6 ∧
                      IfB c17 (R (.int .i64 (1 : Int)) vh6)
                      (∃ n2, n2 < n1 ∧ vI (iAdd .i64 t39 (1 : Int)) n2 vh6))))
                (∃ c18 : Sl, hcell vh5 ((nw vh3).add 1) = some (.slice c18.base c18.len c18.cap) ∧
                  IfB (decide ((c18.len : Int) > (16 : Int))) (R (.int .i64 (1 : Int)) vh5)
                  (∃ c19 : Sl, hcell vh5 ((nw vh3).add 1) = some (.slice c19.base c19.len c19.cap) ∧
                    HCalls Try.prog fn_slices_ContainsFunc_sscarpapiPutscarpapiPut #[.slice c19.base c19.len c19.cap, .func (.func 25) #[] #[]] vh5 fun r3 vh7 =>
                    ∃ c20 : Bool, r3 = .bool c20 ∧
                    Ext vh5 vh7 ∧
                    IfB c20 (R (.int .i64 (1 : Int)) vh7)
                    (∃ n2, n2 < n1 ∧ vI (iAdd .i64 t39 (1 : Int)) n2 vh7))))
              (R (.int .i64 (0 : Int)) vh3)))))))
theorem batch_Check_vc {b : Int} {b1 : Sl} {h : Hp} {R : Value → Hp → Prop} (H : vcbatch_Check b b1 h R) : HCalls Try.prog fn_batch_Check #[.agg #[.int .i64 b, .slice b1.base b1.len b1.cap]] h R :=
  vc_fn (annOf [(0, [(39, .int .i64)])] []) Try.func11 [.agg #[.int .i64 b, .slice b1.base b1.len b1.cap]] (by kernel_rfl) (V := vcbatch_Check b b1 h R) (by kernel_rfl) H

def vcscarpalike_Round (k : Int) (n : Int) (h : Hp) (R : Value → Hp → Prop) : Prop :=
  n ≠ 0 ∧
  IfB (decide ((iRem k n) < (0 : Int))) (R (.int .i64 (iAdd .i64 (iRem k n) n)) h)
  (R (.int .i64 (iRem k n)) h)
theorem scarpalike_Round_vc {k : Int} {n : Int} {h : Hp} {R : Value → Hp → Prop} (H : vcscarpalike_Round k n h R) : HCalls Try.prog fn_scarpalike_Round #[.int .i64 k, .int .i64 n] h R :=
  vc_fn (annOf [] []) Try.func12 [.int .i64 k, .int .i64 n] (by kernel_rfl) (V := vcscarpalike_Round k n h R) (by kernel_rfl) H

def vcbatch_Form (queue : Sl) (h : Hp) (R : Value → Hp → Prop) : Prop :=
  ∃ (vI : Int → Int → Int → Nat → Hp → Prop) (n : Nat), vI (0 : Int) (0 : Int) (0 : Int) n h ∧
  ∀ _junk : Nat → Value, ∀ n3 : Int, ∀ puts : Int, ∀ t8 : Int, ∀ (n1 : Nat) (vh : Hp), vI n3 puts t8 n1 vh →
  IfB (decide (t8 < (queue.len : Int))) (∃ a : Addr, queue.base = some a ∧ 0 ≤ t8 ∧ t8 < (queue.len : Int) ∧
    ∃ c : Int, ∃ c1 : Sl, hcell vh ((a.add ((t8).toNat * 2))) = some (.int .i64 c) ∧ hcell vh ((a.add ((t8).toNat * 2)).add 1) = some (.slice c1.base c1.len c1.cap) ∧
    let vh1 := alc vh [.int .i64 (0 : Int), .slice Sl.nil.base Sl.nil.len Sl.nil.cap] ty_api_Tx;
    stCells (nw vh) 0 [.int .i64 c, .slice c1.base c1.len c1.cap] vh1 fun vh2 =>
    IfB (decide (n3 ≥ (8 : Int))) (R (.int .i64 n3) vh2)
    (IfB (decide (n3 > (0 : Int))) (∃ c2 : Sl, hcell vh2 ((nw vh).add 1) = some (.slice c2.base c2.len c2.cap) ∧
        IfB (decide ((c2.len : Int) > (iSub .i64 (32 : Int) puts))) (R (.int .i64 n3) vh2)
        (∃ c3 : Sl, hcell vh2 ((nw vh).add 1) = some (.slice c3.base c3.len c3.cap) ∧
          ∃ n2, n2 < n1 ∧ vI (iAdd .i64 n3 (1 : Int)) (iAdd .i64 puts (c3.len : Int)) (iAdd .i64 t8 (1 : Int)) n2 vh2))
      (∃ c4 : Sl, hcell vh2 ((nw vh).add 1) = some (.slice c4.base c4.len c4.cap) ∧
        ∃ n2, n2 < n1 ∧ vI (iAdd .i64 n3 (1 : Int)) (iAdd .i64 puts (c4.len : Int)) (iAdd .i64 t8 (1 : Int)) n2 vh2)))
  (R (.int .i64 n3) vh)
theorem batch_Form_vc {queue : Sl} {h : Hp} {R : Value → Hp → Prop} (H : vcbatch_Form queue h R) : HCalls Try.prog fn_batch_Form #[.slice queue.base queue.len queue.cap] h R :=
  vc_fn (annOf [(0, [(2, .int .i64), (3, .int .i64), (8, .int .i64)])] []) Try.func13 [.slice queue.base queue.len queue.cap] (by kernel_rfl) (V := vcbatch_Form queue h R) (by kernel_rfl) H

def vcbatch_Blocks (b : Int) (b1 : Sl) (h : Hp) (R : Value → Hp → Prop) : Prop :=
  let vh := alc h [.int .i64 b, .slice b1.base b1.len b1.cap] ty_api_Batch;
  ∃ c : Sl, hcell vh ((nw h).add 1) = some (.slice c.base c.len c.cap) ∧
  ∃ (vI : Int → Int → Nat → Hp → Prop) (n : Nat), vI (1 : Int) (0 : Int) n vh ∧
  ∀ _junk : Nat → Value, ∀ n3 : Int, ∀ t9 : Int, ∀ (n1 : Nat) (vh1 : Hp), vI n3 t9 n1 vh1 →
  IfB (decide (t9 < (c.len : Int))) (∃ a : Addr, c.base = some a ∧ 0 ≤ t9 ∧ t9 < (c.len : Int) ∧
    ∃ c1 : Int, ∃ c2 : Sl, hcell vh1 ((a.add ((t9).toNat * 2))) = some (.int .i64 c1) ∧ hcell vh1 ((a.add ((t9).toNat * 2)).add 1) = some (.slice c2.base c2.len c2.cap) ∧
    let vh2 := alc vh1 [.int .i64 (0 : Int), .slice Sl.nil.base Sl.nil.len Sl.nil.cap] ty_api_Tx;
    stCells (nw vh1) 0 [.int .i64 c1, .slice c2.base c2.len c2.cap] vh2 fun vh3 =>
    ∃ c3 : Sl, hcell vh3 ((nw vh1).add 1) = some (.slice c3.base c3.len c3.cap) ∧
    ∃ n2, n2 < n1 ∧ vI (iAdd .i64 n3 (c3.len : Int)) (iAdd .i64 t9 (1 : Int)) n2 vh3)
  (R (.int .i64 n3) vh1)
theorem batch_Blocks_vc {b : Int} {b1 : Sl} {h : Hp} {R : Value → Hp → Prop} (H : vcbatch_Blocks b b1 h R) : HCalls Try.prog fn_batch_Blocks #[.agg #[.int .i64 b, .slice b1.base b1.len b1.cap]] h R :=
  vc_fn (annOf [(0, [(3, .int .i64), (9, .int .i64)])] []) Try.func14 [.agg #[.int .i64 b, .slice b1.base b1.len b1.cap]] (by kernel_rfl) (V := vcbatch_Blocks b b1 h R) (by kernel_rfl) H

def vcscarpalike_Total (l : Sl) (top : Int) (h : Hp) (R : Value → Hp → Prop) : Prop :=
  let vh := alc h [.int .i64 (l.len : Int)] ty_int;
  HCalls Try.prog fn_scarpalike_Sum #[.int .i64 (0 : Int), .slice (Sl.mk (some (nw h)) 1 1).base (Sl.mk (some (nw h)) 1 1).len (Sl.mk (some (nw h)) 1 1).cap] vh fun r vh1 =>
  ∃ c : Int, r = .int .i64 c ∧
  ∃ (vI : Int → Int → Nat → Hp → Prop) (n : Nat), vI c (0 : Int) n vh1 ∧
  ∀ _junk : Nat → Value, ∀ n3 : Int, ∀ i : Int, ∀ (n1 : Nat) (vh2 : Hp), vI n3 i n1 vh2 →
  IfB (decide (i < (l.len : Int))) (IfB (decide (n3 ≤ top)) (∃ a : Addr, l.base = some a ∧ 0 ≤ i ∧ i < (l.len : Int) ∧
      ∃ c1 : Sl, hcell vh2 (a.add ((i).toNat * 1)) = some (.slice c1.base c1.len c1.cap) ∧
      let vh3 := alc vh2 [.int .i64 (c1.len : Int)] ty_int;
      HCalls Try.prog fn_scarpalike_Sum #[.int .i64 n3, .slice (Sl.mk (some (nw vh2)) 1 1).base (Sl.mk (some (nw vh2)) 1 1).len (Sl.mk (some (nw vh2)) 1 1).cap] vh3 fun r1 vh4 =>
      ∃ c2 : Int, r1 = .int .i64 c2 ∧
      ∃ n2, n2 < n1 ∧ vI c2 (iAdd .i64 i (1 : Int)) n2 vh4)
    (R (.int .i64 n3) vh2))
  (R (.int .i64 n3) vh2)
theorem scarpalike_Total_vc {l : Sl} {top : Int} {h : Hp} {R : Value → Hp → Prop} (H : vcscarpalike_Total l top h R) : HCalls Try.prog fn_scarpalike_Total #[.slice l.base l.len l.cap, .int .i64 top] h R :=
  vc_fn (annOf [(0, [(5, .int .i64), (6, .int .i64)])] []) Try.func15 [.slice l.base l.len l.cap, .int .i64 top] (by kernel_rfl) (V := vcscarpalike_Total l top h R) (by kernel_rfl) H

def vcbatch_Decode (l : Sl) (h : Hp) (R : Value → Hp → Prop) : Prop :=
  let vh := alc h [.int .i64 (0 : Int), .slice Sl.nil.base Sl.nil.len Sl.nil.cap] ty_api_Batch;
  HCalls Try.prog fn_batch_row #[.slice l.base l.len l.cap] vh fun r vh1 =>
  ∃ c : Sl, ∃ c1 : Int, ∃ c2 : Int, ∃ c3 : Int, ∃ c4 : Int, ∃ c5 : Sl, ∃ c6 : Bool, r = .tuple #[.slice c.base c.len c.cap, .agg #[.int .i64 c1, .int .i64 c2, .int .i64 c3, .int .i64 c4, .slice c5.base c5.len c5.cap], .bool c6] ∧
  let vh2 := alc vh1 [.int .i64 (0 : Int), .int .i64 (0 : Int), .int .i64 (0 : Int), .int .i64 (0 : Int), .slice Sl.nil.base Sl.nil.len Sl.nil.cap] ty_frame_Block;
  stCells (nw vh1) 0 [.int .i64 c1, .int .i64 c2, .int .i64 c3, .int .i64 c4, .slice c5.base c5.len c5.cap] vh2 fun vh3 =>
  IfB (!c6) (stCells (nw h) 0 [.int .i64 (0 : Int), .slice Sl.nil.base Sl.nil.len Sl.nil.cap] vh3 fun vh4 =>
    ∃ x : Int, ∃ x1 : Sl, hcell vh4 ((nw h)) = some (.int .i64 x) ∧ hcell vh4 ((nw h).add 1) = some (.slice x1.base x1.len x1.cap) ∧
    R (.tuple #[.agg #[.int .i64 x, .slice x1.base x1.len x1.cap], .int .i64 (0 : Int), .int .i64 (0 : Int), .int .i64 (14 : Int)]) vh4)
  (∃ c7 : Int, ∃ c8 : Int, ∃ c9 : Int, ∃ c10 : Int, ∃ c11 : Sl, hcell vh3 ((nw vh1)) = some (.int .i64 c7) ∧ hcell vh3 ((nw vh1).add 1) = some (.int .i64 c8) ∧ hcell vh3 ((nw vh1).add 2) = some (.int .i64 c9) ∧ hcell vh3 ((nw vh1).add 3) = some (.int .i64 c10) ∧ hcell vh3 ((nw vh1).add 4) = some (.slice c11.base c11.len c11.cap) ∧
    HCalls Try.prog fn_batch_batch #[.agg #[.int .i64 c7, .int .i64 c8, .int .i64 c9, .int .i64 c10, .slice c11.base c11.len c11.cap], .slice c.base c.len c.cap] vh3 fun r1 vh5 =>
    ∃ c12 : Int, ∃ c13 : Sl, ∃ c14 : Bool, r1 = .tuple #[.agg #[.int .i64 c12, .slice c13.base c13.len c13.cap], .bool c14] ∧
    stCells (nw h) 0 [.int .i64 c12, .slice c13.base c13.len c13.cap] vh5 fun vh6 =>
    IfB (!c14) (stCells (nw h) 0 [.int .i64 (0 : Int), .slice Sl.nil.base Sl.nil.len Sl.nil.cap] vh6 fun vh7 =>
      ∃ x2 : Int, ∃ x3 : Sl, hcell vh7 ((nw h)) = some (.int .i64 x2) ∧ hcell vh7 ((nw h).add 1) = some (.slice x3.base x3.len x3.cap) ∧
      R (.tuple #[.agg #[.int .i64 x2, .slice x3.base x3.len x3.cap], .int .i64 (0 : Int), .int .i64 (0 : Int), .int .i64 (13 : Int)]) vh7)
    (∃ c15 : Int, ∃ c16 : Sl, hcell vh6 ((nw h)) = some (.int .i64 c15) ∧ hcell vh6 ((nw h).add 1) = some (.slice c16.base c16.len c16.cap) ∧
      ∃ c17 : Int, hcell vh6 ((nw vh1).add 1) = some (.int .i64 c17) ∧
      stCells (nw h) 0 [.int .i64 c15, .slice c16.base c16.len c16.cap] vh6 fun vh8 =>
      Ext vh6 vh8 ∧
      ∃ x4 : Int, ∃ x5 : Sl, hcell vh8 ((nw h)) = some (.int .i64 x4) ∧ hcell vh8 ((nw h).add 1) = some (.slice x5.base x5.len x5.cap) ∧
      R (.tuple #[.agg #[.int .i64 x4, .slice x5.base x5.len x5.cap], .int .i64 c17, .int .i64 (iAdd .i64 (c.len : Int) (1 : Int)), .int .i64 (0 : Int)]) vh8))
theorem batch_Decode_vc {l : Sl} {h : Hp} {R : Value → Hp → Prop} (H : vcbatch_Decode l h R) : HCalls Try.prog fn_batch_Decode #[.slice l.base l.len l.cap] h R :=
  vc_fn (annOf [] []) Try.func16 [.slice l.base l.len l.cap] (by kernel_rfl) (V := vcbatch_Decode l h R) (by kernel_rfl) H

def vcscarpref11_SameBatch (a : Int) (a1 : Sl) (b : Int) (b1 : Sl) (h : Hp) (R : Value → Hp → Prop) : Prop :=
  let vh := alc h [.int .i64 a, .slice a1.base a1.len a1.cap] ty_api_Batch;
  let vh1 := alc vh [.int .i64 b, .slice b1.base b1.len b1.cap] ty_api_Batch;
  ∃ c : Int, hcell vh1 (nw h) = some (.int .i64 c) ∧
  ∃ c1 : Int, hcell vh1 (nw vh) = some (.int .i64 c1) ∧
  IfB (c != c1) (R (.bool false) vh1)
  (∃ c2 : Sl, hcell vh1 ((nw h).add 1) = some (.slice c2.base c2.len c2.cap) ∧
    ∃ c3 : Sl, hcell vh1 ((nw vh).add 1) = some (.slice c3.base c3.len c3.cap) ∧
    IfB ((c2.len : Int) != (c3.len : Int)) (R (.bool false) vh1)
    (∃ (vI : Int → Nat → Hp → Prop) (n : Nat), vI (0 : Int) n vh1 ∧
      ∀ _junk : Nat → Value, ∀ i : Int, ∀ (n1 : Nat) (vh2 : Hp), vI i n1 vh2 →
      ∃ c4 : Sl, hcell vh2 ((nw h).add 1) = some (.slice c4.base c4.len c4.cap) ∧
      IfB (decide (i < (c4.len : Int))) (∃ c5 : Sl, hcell vh2 ((nw h).add 1) = some (.slice c5.base c5.len c5.cap) ∧
        ∃ a2 : Addr, c5.base = some a2 ∧ 0 ≤ i ∧ i < (c5.len : Int) ∧
        ∃ c6 : Int, hcell vh2 (a2.add ((i).toNat * 2)) = some (.int .i64 c6) ∧
        ∃ c7 : Sl, hcell vh2 ((nw vh).add 1) = some (.slice c7.base c7.len c7.cap) ∧
        ∃ a3 : Addr, c7.base = some a3 ∧ 0 ≤ i ∧ i < (c7.len : Int) ∧
        ∃ c8 : Int, hcell vh2 (a3.add ((i).toNat * 2)) = some (.int .i64 c8) ∧
        IfB (c6 != c8) (R (.bool false) vh2)
        (∃ c9 : Sl, hcell vh2 ((nw h).add 1) = some (.slice c9.base c9.len c9.cap) ∧
          ∃ a4 : Addr, c9.base = some a4 ∧ 0 ≤ i ∧ i < (c9.len : Int) ∧
          ∃ c10 : Sl, hcell vh2 ((a4.add ((i).toNat * 2)).add 1) = some (.slice c10.base c10.len c10.cap) ∧
          ∃ c11 : Sl, hcell vh2 ((nw vh).add 1) = some (.slice c11.base c11.len c11.cap) ∧
          ∃ a5 : Addr, c11.base = some a5 ∧ 0 ≤ i ∧ i < (c11.len : Int) ∧
          ∃ c12 : Sl, hcell vh2 ((a5.add ((i).toNat * 2)).add 1) = some (.slice c12.base c12.len c12.cap) ∧
          HCalls Try.prog fn_scarpref11_SamePuts #[.slice c10.base c10.len c10.cap, .slice c12.base c12.len c12.cap] vh2 fun r vh3 =>
          ∃ c13 : Bool, r = .bool c13 ∧
          Ext vh2 vh3 ∧
          IfB (!c13) (R (.bool false) vh3)
          (∃ n2, n2 < n1 ∧ vI (iAdd .i64 i (1 : Int)) n2 vh3)))
      (R (.bool true) vh2)))
theorem scarpref11_SameBatch_vc {a : Int} {a1 : Sl} {b : Int} {b1 : Sl} {h : Hp} {R : Value → Hp → Prop} (H : vcscarpref11_SameBatch a a1 b b1 h R) : HCalls Try.prog fn_scarpref11_SameBatch #[.agg #[.int .i64 a, .slice a1.base a1.len a1.cap], .agg #[.int .i64 b, .slice b1.base b1.len b1.cap]] h R :=
  vc_fn (annOf [(0, [(5, .int .i64)])] []) Try.func18 [.agg #[.int .i64 a, .slice a1.base a1.len a1.cap], .agg #[.int .i64 b, .slice b1.base b1.len b1.cap]] (by kernel_rfl) (V := vcscarpref11_SameBatch a a1 b b1 h R) (by kernel_rfl) H

def vcscarplaw17_small (l : Sl) (h : Hp) (R : Value → Hp → Prop) : Prop :=
  HCalls Try.prog fn_scarpalike_Txs #[.slice l.base l.len l.cap, .int .i64 (10000 : Int)] h fun r vh =>
  ∃ c : Int, r = .int .i64 c ∧
  IfB (decide (c ≤ (10000 : Int))) (R (.bool (decide ((l.len : Int) ≤ (100 : Int)))) vh)
  (R (.bool false) vh)
theorem scarplaw17_small_vc {l : Sl} {h : Hp} {R : Value → Hp → Prop} (H : vcscarplaw17_small l h R) : HCalls Try.prog fn_scarplaw17_small #[.slice l.base l.len l.cap] h R :=
  vc_fn (annOf [] []) Try.func19 [.slice l.base l.len l.cap] (by kernel_rfl) (V := vcscarplaw17_small l h R) (by kernel_rfl) H

def vcscarpalike_Block (n : Int) (k : Int) (h : Hp) (R : Value → Hp → Prop) : Prop :=
  MkC ty_uint8 1 #[.int .u8 (0 : Int)] (if n < (0 : Int) then (0 : Int) else n) (if n < (0 : Int) then (0 : Int) else n) h fun s vh =>
  ∃ (vI : Int → Nat → Hp → Prop) (n1 : Nat), vI (0 : Int) n1 vh ∧
  ∀ _junk : Nat → Value, ∀ i : Int, ∀ (n2 : Nat) (vh1 : Hp), vI i n2 vh1 →
  IfB (decide (i < (s.len : Int))) (HCalls Try.prog fn_scarpalike_Round #[.int .i64 (iAdd .i64 (iAdd .i64 (iMul .i64 i i) (iMul .i64 k (7 : Int))) (1 : Int)), .int .i64 (251 : Int)] vh1 fun r vh2 =>
    ∃ c : Int, r = .int .i64 c ∧
    ∃ a : Addr, s.base = some a ∧ 0 ≤ i ∧ i < (s.len : Int) ∧
    StOk vh2 (a.add ((i).toNat * 1)) ∧
    Lt (hset vh2 (a.add ((i).toNat * 1)) (.int .u8 (iConv .u8 c))) fun vh3 =>
    ∃ n3, n3 < n2 ∧ vI (iAdd .i64 i (1 : Int)) n3 vh3)
  (R (.slice s.base s.len s.cap) vh1)
theorem scarpalike_Block_vc {n : Int} {k : Int} {h : Hp} {R : Value → Hp → Prop} (H : vcscarpalike_Block n k h R) : HCalls Try.prog fn_scarpalike_Block #[.int .i64 n, .int .i64 k] h R :=
  vc_fn (annOf [(0, [(6, .int .i64)])] []) Try.func20 [.int .i64 n, .int .i64 k] (by kernel_rfl) (V := vcscarpalike_Block n k h R) (by kernel_rfl) H

def vcbits_Put64 (v : Int) (h : Hp) (R : Value → Hp → Prop) : Prop :=
  HCalls Try.prog fn_bits_put #[.int .u64 v, .int .i64 (8 : Int)] h fun r vh =>
  ∃ c : Sl, r = .slice c.base c.len c.cap ∧
  R (.slice c.base c.len c.cap) vh
theorem bits_Put64_vc {v : Int} {h : Hp} {R : Value → Hp → Prop} (H : vcbits_Put64 v h R) : HCalls Try.prog fn_bits_Put64 #[.int .u64 v] h R :=
  vc_fn (annOf [] []) Try.func21 [.int .u64 v] (by kernel_rfl) (V := vcbits_Put64 v h R) (by kernel_rfl) H

def vcframe_Encode (b : Int) (b1 : Int) (b2 : Int) (b3 : Int) (b4 : Sl) (h : Hp) (R : Value → Hp → Prop) : Prop :=
  let vh := alc h [.int .i64 b, .int .i64 b1, .int .i64 b2, .int .i64 b3, .slice b4.base b4.len b4.cap] ty_frame_Block;
  ∃ c : Int, hcell vh (nw h) = some (.int .i64 c) ∧
  HCalls Try.prog fn_frame_within #[.int .i64 c, .int .i64 (1 : Int), .int .i64 (4 : Int)] vh fun r vh1 =>
  ∃ c1 : Bool, r = .bool c1 ∧
  IfB (!c1) (R (.tuple #[.slice Sl.nil.base Sl.nil.len Sl.nil.cap, .int .i64 (1 : Int)]) vh1)
  (∃ c2 : Int, hcell vh1 ((nw h).add 1) = some (.int .i64 c2) ∧
    HCalls Try.prog fn_frame_within #[.int .i64 c2, .int .i64 (0 : Int), .int .i64 (4294967295 : Int)] vh1 fun r1 vh2 =>
    ∃ c3 : Bool, r1 = .bool c3 ∧
    IfB (!c3) (R (.tuple #[.slice Sl.nil.base Sl.nil.len Sl.nil.cap, .int .i64 (1 : Int)]) vh2)
    (∃ c4 : Int, hcell vh2 ((nw h).add 2) = some (.int .i64 c4) ∧
      HCalls Try.prog fn_frame_within #[.int .i64 c4, .int .i64 (0 : Int), .int .i64 (1099511627776 : Int)] vh2 fun r2 vh3 =>
      ∃ c5 : Bool, r2 = .bool c5 ∧
      IfB (!c5) (R (.tuple #[.slice Sl.nil.base Sl.nil.len Sl.nil.cap, .int .i64 (1 : Int)]) vh3)
      (∃ c6 : Int, hcell vh3 ((nw h).add 3) = some (.int .i64 c6) ∧
        HCalls Try.prog fn_frame_within #[.int .i64 c6, .int .i64 (0 : Int), .int .i64 (1048576 : Int)] vh3 fun r3 vh4 =>
        ∃ c7 : Bool, r3 = .bool c7 ∧
        IfB (!c7) (R (.tuple #[.slice Sl.nil.base Sl.nil.len Sl.nil.cap, .int .i64 (1 : Int)]) vh4)
        (∃ c8 : Sl, hcell vh4 ((nw h).add 4) = some (.slice c8.base c8.len c8.cap) ∧
          IfB (decide ((c8.len : Int) > (40 : Int))) (R (.tuple #[.slice Sl.nil.base Sl.nil.len Sl.nil.cap, .int .i64 (3 : Int)]) vh4)
          (∃ c9 : Int, hcell vh4 (nw h) = some (.int .i64 c9) ∧
            ∃ c10 : Sl, hcell vh4 ((nw h).add 4) = some (.slice c10.base c10.len c10.cap) ∧
            ∃ c11 : Int, hcell vh4 ((nw h).add 1) = some (.int .i64 c11) ∧
            ∃ c12 : Int, hcell vh4 ((nw h).add 2) = some (.int .i64 c12) ∧
            ∃ c13 : Int, hcell vh4 ((nw h).add 3) = some (.int .i64 c13) ∧
            ∃ c14 : Sl, hcell vh4 ((nw h).add 4) = some (.slice c14.base c14.len c14.cap) ∧
            (let vh5 := alc vh4 [.int .u8 (iConv .u8 c9), .int .u8 (iConv .u8 (c10.len : Int))] ty_uint8;
              Ext vh4 vh5 ∧
              HCalls Try.prog fn_bits_Put32 #[.int .u32 (iConv .u32 c11)] vh5 fun r4 vh6 =>
              ∃ c15 : Sl, r4 = .slice c15.base c15.len c15.cap ∧
              Ext vh4 vh6 ∧
              HCalls Try.prog fn_bits_Put64 #[.int .u64 (iConv .u64 c12)] vh6 fun r5 vh7 =>
              ∃ c16 : Sl, r5 = .slice c16.base c16.len c16.cap ∧
              Ext vh4 vh7 ∧
              HCalls Try.prog fn_bits_Put32 #[.int .u32 (iConv .u32 c13)] vh7 fun r6 vh8 =>
              ∃ c17 : Sl, r6 = .slice c17.base c17.len c17.cap ∧
              Ext vh4 vh8 ∧
              let vh9 := alc vh8 [.slice (Sl.mk (some (nw vh4)) 2 2).base (Sl.mk (some (nw vh4)) 2 2).len (Sl.mk (some (nw vh4)) 2 2).cap, .slice c15.base c15.len c15.cap, .slice c16.base c16.len c16.cap, .slice c17.base c17.len c17.cap, .slice c14.base c14.len c14.cap] ty_suint8;
              Ext vh4 vh9 ∧
              HCalls Try.prog fn_slices_Concat_sbytebyte #[.slice (Sl.mk (some (nw vh8)) 5 5).base (Sl.mk (some (nw vh8)) 5 5).len (Sl.mk (some (nw vh8)) 5 5).cap] vh9 fun r7 vh10 =>
              ∃ c18 : Sl, r7 = .slice c18.base c18.len c18.cap ∧
              Ext vh4 vh10 ∧
              AppZ ty_uint8 1 1 #[.int .u8 (0 : Int)] c18 (iSub .i64 (60 : Int) (c18.len : Int)) vh10 fun s vh11 =>
              HCalls Try.prog fn_crc_Of #[.slice s.base s.len s.cap] vh11 fun r8 vh12 =>
              ∃ c19 : Int, r8 = .int .u32 c19 ∧
              HCalls Try.prog fn_bits_Put32 #[.int .u32 c19] vh12 fun r9 vh13 =>
              ∃ c20 : Sl, r9 = .slice c20.base c20.len c20.cap ∧
              AppC ty_uint8 1 1 #[.int .u8 (0 : Int)] s c20 vh13 fun s1 vh14 =>
              R (.tuple #[.slice s1.base s1.len s1.cap, .int .i64 (0 : Int)]) vh14) ∧
            (HCalls Try.prog fn_bits_Put32 #[.int .u32 (iConv .u32 c11)] vh4 fun r10 vh15 =>
              ∃ c21 : Sl, r10 = .slice c21.base c21.len c21.cap ∧
              Ext vh4 vh15 ∧
              (let vh16 := alc vh15 [.int .u8 (iConv .u8 c9), .int .u8 (iConv .u8 (c10.len : Int))] ty_uint8;
                Ext vh4 vh16 ∧
                HCalls Try.prog fn_bits_Put64 #[.int .u64 (iConv .u64 c12)] vh16 fun r11 vh17 =>
                ∃ c22 : Sl, r11 = .slice c22.base c22.len c22.cap ∧
                Ext vh4 vh17 ∧
                HCalls Try.prog fn_bits_Put32 #[.int .u32 (iConv .u32 c13)] vh17 fun r12 vh18 =>
                ∃ c23 : Sl, r12 = .slice c23.base c23.len c23.cap ∧
                Ext vh4 vh18 ∧
                let vh19 := alc vh18 [.slice (Sl.mk (some (nw vh15)) 2 2).base (Sl.mk (some (nw vh15)) 2 2).len (Sl.mk (some (nw vh15)) 2 2).cap, .slice c21.base c21.len c21.cap, .slice c22.base c22.len c22.cap, .slice c23.base c23.len c23.cap, .slice c14.base c14.len c14.cap] ty_suint8;
                Ext vh4 vh19 ∧
                HCalls Try.prog fn_slices_Concat_sbytebyte #[.slice (Sl.mk (some (nw vh18)) 5 5).base (Sl.mk (some (nw vh18)) 5 5).len (Sl.mk (some (nw vh18)) 5 5).cap] vh19 fun r13 vh20 =>
                ∃ c24 : Sl, r13 = .slice c24.base c24.len c24.cap ∧
                Ext vh4 vh20 ∧
                AppZ ty_uint8 1 1 #[.int .u8 (0 : Int)] c24 (iSub .i64 (60 : Int) (c24.len : Int)) vh20 fun s2 vh21 =>
                HCalls Try.prog fn_crc_Of #[.slice s2.base s2.len s2.cap] vh21 fun r14 vh22 =>
                ∃ c25 : Int, r14 = .int .u32 c25 ∧
                HCalls Try.prog fn_bits_Put32 #[.int .u32 c25] vh22 fun r15 vh23 =>
                ∃ c26 : Sl, r15 = .slice c26.base c26.len c26.cap ∧
                AppC ty_uint8 1 1 #[.int .u8 (0 : Int)] s2 c26 vh23 fun s3 vh24 =>
                R (.tuple #[.slice s3.base s3.len s3.cap, .int .i64 (0 : Int)]) vh24) ∧
              (HCalls Try.prog fn_bits_Put64 #[.int .u64 (iConv .u64 c12)] vh15 fun r16 vh25 =>
                ∃ c27 : Sl, r16 = .slice c27.base c27.len c27.cap ∧
                Ext vh4 vh25 ∧
                (let vh26 := alc vh25 [.int .u8 (iConv .u8 c9), .int .u8 (iConv .u8 (c10.len : Int))] ty_uint8;
                  Ext vh4 vh26 ∧
                  HCalls Try.prog fn_bits_Put32 #[.int .u32 (iConv .u32 c13)] vh26 fun r17 vh27 =>
                  ∃ c28 : Sl, r17 = .slice c28.base c28.len c28.cap ∧
                  Ext vh4 vh27 ∧
                  let vh28 := alc vh27 [.slice (Sl.mk (some (nw vh25)) 2 2).base (Sl.mk (some (nw vh25)) 2 2).len (Sl.mk (some (nw vh25)) 2 2).cap, .slice c21.base c21.len c21.cap, .slice c27.base c27.len c27.cap, .slice c28.base c28.len c28.cap, .slice c14.base c14.len c14.cap] ty_suint8;
                  Ext vh4 vh28 ∧
                  HCalls Try.prog fn_slices_Concat_sbytebyte #[.slice (Sl.mk (some (nw vh27)) 5 5).base (Sl.mk (some (nw vh27)) 5 5).len (Sl.mk (some (nw vh27)) 5 5).cap] vh28 fun r18 vh29 =>
                  ∃ c29 : Sl, r18 = .slice c29.base c29.len c29.cap ∧
                  Ext vh4 vh29 ∧
                  AppZ ty_uint8 1 1 #[.int .u8 (0 : Int)] c29 (iSub .i64 (60 : Int) (c29.len : Int)) vh29 fun s4 vh30 =>
                  HCalls Try.prog fn_crc_Of #[.slice s4.base s4.len s4.cap] vh30 fun r19 vh31 =>
                  ∃ c30 : Int, r19 = .int .u32 c30 ∧
                  HCalls Try.prog fn_bits_Put32 #[.int .u32 c30] vh31 fun r20 vh32 =>
                  ∃ c31 : Sl, r20 = .slice c31.base c31.len c31.cap ∧
                  AppC ty_uint8 1 1 #[.int .u8 (0 : Int)] s4 c31 vh32 fun s5 vh33 =>
                  R (.tuple #[.slice s5.base s5.len s5.cap, .int .i64 (0 : Int)]) vh33) ∧
                (HCalls Try.prog fn_bits_Put32 #[.int .u32 (iConv .u32 c13)] vh25 fun r21 vh34 =>
                  ∃ c32 : Sl, r21 = .slice c32.base c32.len c32.cap ∧
                  Ext vh4 vh34 ∧
                  let vh35 := alc vh34 [.int .u8 (iConv .u8 c9), .int .u8 (iConv .u8 (c10.len : Int))] ty_uint8;
                  Ext vh4 vh35 ∧
                  let vh36 := alc vh35 [.slice (Sl.mk (some (nw vh34)) 2 2).base (Sl.mk (some (nw vh34)) 2 2).len (Sl.mk (some (nw vh34)) 2 2).cap, .slice c21.base c21.len c21.cap, .slice c27.base c27.len c27.cap, .slice c32.base c32.len c32.cap, .slice c14.base c14.len c14.cap] ty_suint8;
                  Ext vh4 vh36 ∧
                  HCalls Try.prog fn_slices_Concat_sbytebyte #[.slice (Sl.mk (some (nw vh35)) 5 5).base (Sl.mk (some (nw vh35)) 5 5).len (Sl.mk (some (nw vh35)) 5 5).cap] vh36 fun r22 vh37 =>
                  ∃ c33 : Sl, r22 = .slice c33.base c33.len c33.cap ∧
                  Ext vh4 vh37 ∧
                  AppZ ty_uint8 1 1 #[.int .u8 (0 : Int)] c33 (iSub .i64 (60 : Int) (c33.len : Int)) vh37 fun s6 vh38 =>
                  HCalls Try.prog fn_crc_Of #[.slice s6.base s6.len s6.cap] vh38 fun r23 vh39 =>
                  ∃ c34 : Int, r23 = .int .u32 c34 ∧
                  HCalls Try.prog fn_bits_Put32 #[.int .u32 c34] vh39 fun r24 vh40 =>
                  ∃ c35 : Sl, r24 = .slice c35.base c35.len c35.cap ∧
                  AppC ty_uint8 1 1 #[.int .u8 (0 : Int)] s6 c35 vh40 fun s7 vh41 =>
                  R (.tuple #[.slice s7.base s7.len s7.cap, .int .i64 (0 : Int)]) vh41))))))))
theorem frame_Encode_vc {b : Int} {b1 : Int} {b2 : Int} {b3 : Int} {b4 : Sl} {h : Hp} {R : Value → Hp → Prop} (H : vcframe_Encode b b1 b2 b3 b4 h R) : HCalls Try.prog fn_frame_Encode #[.agg #[.int .i64 b, .int .i64 b1, .int .i64 b2, .int .i64 b3, .slice b4.base b4.len b4.cap]] h R :=
  vc_fn (annOf [] []) Try.func22 [.agg #[.int .i64 b, .int .i64 b1, .int .i64 b2, .int .i64 b3, .slice b4.base b4.len b4.cap]] (by kernel_rfl) (V := vcframe_Encode b b1 b2 b3 b4 h R) (by kernel_rfl) H

def vcvalid_Order (l : Sl) (h : Hp) (R : Value → Hp → Prop) : Prop :=
  ∃ (vI : Int → Int → Nat → Hp → Prop) (n : Nat), vI (0 : Int) (0 : Int) n h ∧
  ∀ _junk : Nat → Value, ∀ last : Int, ∀ t9 : Int, ∀ (n1 : Nat) (vh : Hp), vI last t9 n1 vh →
  IfB (decide (t9 < (l.len : Int))) (∃ a : Addr, l.base = some a ∧ 0 ≤ t9 ∧ t9 < (l.len : Int) ∧
    ∃ c : Int, ∃ c1 : Sl, hcell vh ((a.add ((t9).toNat * 2))) = some (.int .i64 c) ∧ hcell vh ((a.add ((t9).toNat * 2)).add 1) = some (.slice c1.base c1.len c1.cap) ∧
    let vh1 := alc vh [.int .i64 (0 : Int), .slice Sl.nil.base Sl.nil.len Sl.nil.cap] ty_api_Tx;
    stCells (nw vh) 0 [.int .i64 c, .slice c1.base c1.len c1.cap] vh1 fun vh2 =>
    ∃ c2 : Int, hcell vh2 (nw vh) = some (.int .i64 c2) ∧
    IfB (decide (c2 ≤ last)) (R (.bool false) vh2)
    (∃ c3 : Int, hcell vh2 (nw vh) = some (.int .i64 c3) ∧
      IfB (decide (c3 > (1099511627776 : Int))) (R (.bool false) vh2)
      (∃ c4 : Sl, hcell vh2 ((nw vh).add 1) = some (.slice c4.base c4.len c4.cap) ∧
        IfB ((c4.len : Int) == (0 : Int)) (R (.bool false) vh2)
        (∃ c5 : Int, hcell vh2 (nw vh) = some (.int .i64 c5) ∧
          ∃ (vI1 : Int → Nat → Hp → Prop) (n3 : Nat), vI1 (1 : Int) n3 vh2 ∧
          ∀ _junk : Nat → Value, ∀ i : Int, ∀ (n4 : Nat) (vh3 : Hp), vI1 i n4 vh3 →
          ∃ c6 : Sl, hcell vh3 ((nw vh).add 1) = some (.slice c6.base c6.len c6.cap) ∧
          IfB (decide (i < (c6.len : Int))) (∃ c7 : Sl, hcell vh3 ((nw vh).add 1) = some (.slice c7.base c7.len c7.cap) ∧
            ∃ a1 : Addr, c7.base = some a1 ∧ 0 ≤ i ∧ i < (c7.len : Int) ∧
            ∃ c8 : Int, hcell vh3 (a1.add ((i).toNat * 2)) = some (.int .i64 c8) ∧
            ∃ c9 : Sl, hcell vh3 ((nw vh).add 1) = some (.slice c9.base c9.len c9.cap) ∧
            ∃ a2 : Addr, c9.base = some a2 ∧ 0 ≤ (iSub .i64 i (1 : Int)) ∧ (iSub .i64 i (1 : Int)) < (c9.len : Int) ∧
            ∃ c10 : Int, hcell vh3 (a2.add (((iSub .i64 i (1 : Int))).toNat * 2)) = some (.int .i64 c10) ∧
            IfB (decide (c8 ≤ c10)) (R (.bool false) vh3)
            (∃ n5, n5 < n4 ∧ vI1 (iAdd .i64 i (1 : Int)) n5 vh3))
          (∃ n2, n2 < n1 ∧ vI c5 (iAdd .i64 t9 (1 : Int)) n2 vh3)))))
  (R (.bool true) vh)
theorem valid_Order_vc {l : Sl} {h : Hp} {R : Value → Hp → Prop} (H : vcvalid_Order l h R) : HCalls Try.prog fn_valid_Order #[.slice l.base l.len l.cap] h R :=
  vc_fn (annOf [(0, [(3, .int .i64), (9, .int .i64)]), (1, [(6, .int .i64)])] []) Try.func23 [.slice l.base l.len l.cap] (by kernel_rfl) (V := vcvalid_Order l h R) (by kernel_rfl) H

def vcslices_ContainsFunc_sscarpapiPutscarpapiPut (s : Sl) (f : Nat) (h : Hp) (R : Value → Hp → Prop) : Prop :=
  HCalls Try.prog fn_slices_IndexFunc_sscarpapiPutscarpapiPut #[.slice s.base s.len s.cap, .func (.func f) #[] #[]] h fun r vh =>
  ∃ c : Int, r = .int .i64 c ∧
  R (.bool (decide (c ≥ (0 : Int)))) vh
theorem slices_ContainsFunc_sscarpapiPutscarpapiPut_vc {s : Sl} {f : Nat} {h : Hp} {R : Value → Hp → Prop} (H : vcslices_ContainsFunc_sscarpapiPutscarpapiPut s f h R) : HCalls Try.prog fn_slices_ContainsFunc_sscarpapiPutscarpapiPut #[.slice s.base s.len s.cap, .func (.func f) #[] #[]] h R :=
  vc_fn (annOf [] []) Try.func24 [.slice s.base s.len s.cap, .func (.func f) #[] #[]] (by kernel_rfl) (V := vcslices_ContainsFunc_sscarpapiPutscarpapiPut s f h R) (by kernel_rfl) H

def vcbatch_Check_1 (p : Int) (p1 : Sl) (h : Hp) (R : Value → Hp → Prop) : Prop :=
  let vh := alc h [.int .i64 p, .slice p1.base p1.len p1.cap] ty_api_Put;
  ∃ c : Int, ∃ c1 : Sl, hcell vh ((nw h)) = some (.int .i64 c) ∧ hcell vh ((nw h).add 1) = some (.slice c1.base c1.len c1.cap) ∧
  HCalls Try.prog fn_batch_put #[.agg #[.int .i64 c, .slice c1.base c1.len c1.cap]] vh fun r vh1 =>
  ∃ c2 : Bool, r = .bool c2 ∧
  R (.bool (!c2)) vh1
theorem batch_Check_1_vc {p : Int} {p1 : Sl} {h : Hp} {R : Value → Hp → Prop} (H : vcbatch_Check_1 p p1 h R) : HCalls Try.prog fn_batch_Check_1 #[.agg #[.int .i64 p, .slice p1.base p1.len p1.cap]] h R :=
  vc_fn (annOf [] []) Try.func25 [.agg #[.int .i64 p, .slice p1.base p1.len p1.cap]] (by kernel_rfl) (V := vcbatch_Check_1 p p1 h R) (by kernel_rfl) H

def vcbatch_put (p : Int) (p1 : Sl) (h : Hp) (R : Value → Hp → Prop) : Prop :=
  let vh := alc h [.int .i64 p, .slice p1.base p1.len p1.cap] ty_api_Put;
  ∃ c : Int, hcell vh (nw h) = some (.int .i64 c) ∧
  IfB (decide (c ≥ (0 : Int))) (∃ c1 : Int, hcell vh (nw h) = some (.int .i64 c1) ∧
    IfB (decide (c1 ≤ (1048576 : Int))) (∃ c2 : Sl, hcell vh ((nw h).add 1) = some (.slice c2.base c2.len c2.cap) ∧
      R (.bool ((c2.len : Int) == (40 : Int))) vh)
    (R (.bool false) vh))
  (R (.bool false) vh)
theorem batch_put_vc {p : Int} {p1 : Sl} {h : Hp} {R : Value → Hp → Prop} (H : vcbatch_put p p1 h R) : HCalls Try.prog fn_batch_put #[.agg #[.int .i64 p, .slice p1.base p1.len p1.cap]] h R :=
  vc_fn (annOf [] []) Try.func26 [.agg #[.int .i64 p, .slice p1.base p1.len p1.cap]] (by kernel_rfl) (V := vcbatch_put p p1 h R) (by kernel_rfl) H

def vcscarpalike_Sum (n : Int) (more : Sl) (h : Hp) (R : Value → Hp → Prop) : Prop :=
  ∃ (vI : Int → Int → Nat → Hp → Prop) (n1 : Nat), vI n (0 : Int) n1 h ∧
  ∀ _junk : Nat → Value, ∀ n4 : Int, ∀ i : Int, ∀ (n2 : Nat) (vh : Hp), vI n4 i n2 vh →
  IfB (decide (i < (more.len : Int))) (IfB (decide (n4 > (1099511627776 : Int))) (R (.int .i64 (1099511627776 : Int)) vh)
    (∃ a : Addr, more.base = some a ∧ 0 ≤ i ∧ i < (more.len : Int) ∧
      ∃ c : Int, hcell vh (a.add ((i).toNat * 1)) = some (.int .i64 c) ∧
      IfB (decide (c > (iSub .i64 (1099511627776 : Int) n4))) (R (.int .i64 (1099511627776 : Int)) vh)
      (∃ a1 : Addr, more.base = some a1 ∧ 0 ≤ i ∧ i < (more.len : Int) ∧
        ∃ c1 : Int, hcell vh (a1.add ((i).toNat * 1)) = some (.int .i64 c1) ∧
        ∃ n3, n3 < n2 ∧ vI (iAdd .i64 n4 c1) (iAdd .i64 i (1 : Int)) n3 vh)))
  (R (.int .i64 n4) vh)
theorem scarpalike_Sum_vc {n : Int} {more : Sl} {h : Hp} {R : Value → Hp → Prop} (H : vcscarpalike_Sum n more h R) : HCalls Try.prog fn_scarpalike_Sum #[.int .i64 n, .slice more.base more.len more.cap] h R :=
  vc_fn (annOf [(0, [(0, .int .i64), (5, .int .i64)])] []) Try.func27 [.int .i64 n, .slice more.base more.len more.cap] (by kernel_rfl) (V := vcscarpalike_Sum n more h R) (by kernel_rfl) H

def vcscarpref6_Decode (p : Sl) (h : Hp) (R : Value → Hp → Prop) : Prop :=
  let vh := alc h [.int .i64 (0 : Int), .int .i64 (0 : Int), .int .i64 (0 : Int), .int .i64 (0 : Int), .slice Sl.nil.base Sl.nil.len Sl.nil.cap] ty_scarpref6_Block;
  IfB ((p.len : Int) != (64 : Int)) (stCells (nw h) 0 [.int .i64 (0 : Int), .int .i64 (0 : Int), .int .i64 (0 : Int), .int .i64 (0 : Int), .slice Sl.nil.base Sl.nil.len Sl.nil.cap] vh fun vh1 =>
    ∃ x : Int, ∃ x1 : Int, ∃ x2 : Int, ∃ x3 : Int, ∃ x4 : Sl, hcell vh1 ((nw h)) = some (.int .i64 x) ∧ hcell vh1 ((nw h).add 1) = some (.int .i64 x1) ∧ hcell vh1 ((nw h).add 2) = some (.int .i64 x2) ∧ hcell vh1 ((nw h).add 3) = some (.int .i64 x3) ∧ hcell vh1 ((nw h).add 4) = some (.slice x4.base x4.len x4.cap) ∧
    R (.tuple #[.agg #[.int .i64 x, .int .i64 x1, .int .i64 x2, .int .i64 x3, .slice x4.base x4.len x4.cap], .int .i64 (3 : Int)]) vh1)
  (0 ≤ (2 : Int) ∧ (2 : Int) ≤ (p.len : Int) ∧ (p.len : Int) ≤ (p.cap : Int) ∧ (p.cap : Int) ≤ (p.cap : Int) ∧
    HCalls Try.prog fn_scarpref6_Get #[.slice (cutSl p (2 : Int) (p.len : Int) (p.cap : Int) 1).base (cutSl p (2 : Int) (p.len : Int) (p.cap : Int) 1).len (cutSl p (2 : Int) (p.len : Int) (p.cap : Int) 1).cap, .int .i64 (4 : Int)] vh fun r vh2 =>
    ∃ c : Int, ∃ c1 : Bool, r = .tuple #[.int .u64 c, .bool c1] ∧
    0 ≤ (6 : Int) ∧ (6 : Int) ≤ (p.len : Int) ∧ (p.len : Int) ≤ (p.cap : Int) ∧ (p.cap : Int) ≤ (p.cap : Int) ∧
    HCalls Try.prog fn_scarpref6_Get #[.slice (cutSl p (6 : Int) (p.len : Int) (p.cap : Int) 1).base (cutSl p (6 : Int) (p.len : Int) (p.cap : Int) 1).len (cutSl p (6 : Int) (p.len : Int) (p.cap : Int) 1).cap, .int .i64 (8 : Int)] vh2 fun r1 vh3 =>
    ∃ c2 : Int, ∃ c3 : Bool, r1 = .tuple #[.int .u64 c2, .bool c3] ∧
    0 ≤ (14 : Int) ∧ (14 : Int) ≤ (p.len : Int) ∧ (p.len : Int) ≤ (p.cap : Int) ∧ (p.cap : Int) ≤ (p.cap : Int) ∧
    HCalls Try.prog fn_scarpref6_Get #[.slice (cutSl p (14 : Int) (p.len : Int) (p.cap : Int) 1).base (cutSl p (14 : Int) (p.len : Int) (p.cap : Int) 1).len (cutSl p (14 : Int) (p.len : Int) (p.cap : Int) 1).cap, .int .i64 (4 : Int)] vh3 fun r2 vh4 =>
    ∃ c4 : Int, ∃ c5 : Bool, r2 = .tuple #[.int .u64 c4, .bool c5] ∧
    ∃ a : Addr, p.base = some a ∧ 0 ≤ (1 : Int) ∧ (1 : Int) < (p.len : Int) ∧
    ∃ c6 : Int, hcell vh4 (a.add (((1 : Int)).toNat * 1)) = some (.int .u8 c6) ∧
    IfB (decide (c2 > (1099511627776 : Int))) (stCells (nw h) 0 [.int .i64 (0 : Int), .int .i64 (0 : Int), .int .i64 (0 : Int), .int .i64 (0 : Int), .slice Sl.nil.base Sl.nil.len Sl.nil.cap] vh4 fun vh5 =>
      ∃ x5 : Int, ∃ x6 : Int, ∃ x7 : Int, ∃ x8 : Int, ∃ x9 : Sl, hcell vh5 ((nw h)) = some (.int .i64 x5) ∧ hcell vh5 ((nw h).add 1) = some (.int .i64 x6) ∧ hcell vh5 ((nw h).add 2) = some (.int .i64 x7) ∧ hcell vh5 ((nw h).add 3) = some (.int .i64 x8) ∧ hcell vh5 ((nw h).add 4) = some (.slice x9.base x9.len x9.cap) ∧
      R (.tuple #[.agg #[.int .i64 x5, .int .i64 x6, .int .i64 x7, .int .i64 x8, .slice x9.base x9.len x9.cap], .int .i64 (13 : Int)]) vh5)
    (IfB (decide (c4 > (1048576 : Int))) (stCells (nw h) 0 [.int .i64 (0 : Int), .int .i64 (0 : Int), .int .i64 (0 : Int), .int .i64 (0 : Int), .slice Sl.nil.base Sl.nil.len Sl.nil.cap] vh4 fun vh6 =>
        ∃ x10 : Int, ∃ x11 : Int, ∃ x12 : Int, ∃ x13 : Int, ∃ x14 : Sl, hcell vh6 ((nw h)) = some (.int .i64 x10) ∧ hcell vh6 ((nw h).add 1) = some (.int .i64 x11) ∧ hcell vh6 ((nw h).add 2) = some (.int .i64 x12) ∧ hcell vh6 ((nw h).add 3) = some (.int .i64 x13) ∧ hcell vh6 ((nw h).add 4) = some (.slice x14.base x14.len x14.cap) ∧
        R (.tuple #[.agg #[.int .i64 x10, .int .i64 x11, .int .i64 x12, .int .i64 x13, .slice x14.base x14.len x14.cap], .int .i64 (13 : Int)]) vh6)
      (IfB (decide ((iConv .i64 c6) > (40 : Int))) (stCells (nw h) 0 [.int .i64 (0 : Int), .int .i64 (0 : Int), .int .i64 (0 : Int), .int .i64 (0 : Int), .slice Sl.nil.base Sl.nil.len Sl.nil.cap] vh4 fun vh7 =>
          ∃ x15 : Int, ∃ x16 : Int, ∃ x17 : Int, ∃ x18 : Int, ∃ x19 : Sl, hcell vh7 ((nw h)) = some (.int .i64 x15) ∧ hcell vh7 ((nw h).add 1) = some (.int .i64 x16) ∧ hcell vh7 ((nw h).add 2) = some (.int .i64 x17) ∧ hcell vh7 ((nw h).add 3) = some (.int .i64 x18) ∧ hcell vh7 ((nw h).add 4) = some (.slice x19.base x19.len x19.cap) ∧
          R (.tuple #[.agg #[.int .i64 x15, .int .i64 x16, .int .i64 x17, .int .i64 x18, .slice x19.base x19.len x19.cap], .int .i64 (13 : Int)]) vh7)
        (∃ a1 : Addr, p.base = some a1 ∧ 0 ≤ (0 : Int) ∧ (0 : Int) < (p.len : Int) ∧
          ∃ c7 : Int, hcell vh4 (a1.add (((0 : Int)).toNat * 1)) = some (.int .u8 c7) ∧
          0 ≤ (18 : Int) ∧ (18 : Int) ≤ (iAdd .i64 (18 : Int) (iConv .i64 c6)) ∧ (iAdd .i64 (18 : Int) (iConv .i64 c6)) ≤ (p.cap : Int) ∧ (p.cap : Int) ≤ (p.cap : Int) ∧
          (let vh8 := alc vh4 [] ty_uint8;
            Ext vh4 vh8 ∧
            (AppC ty_uint8 1 1 #[.int .u8 (0 : Int)] (Sl.mk (some (nw vh4)) 0 0) (cutSl p (18 : Int) (iAdd .i64 (18 : Int) (iConv .i64 c6)) (p.cap : Int) 1) vh8 fun s vh9 =>
              Ext vh4 vh9 ∧
              let vh10 := alc vh9 [.int .i64 (0 : Int), .int .i64 (0 : Int), .int .i64 (0 : Int), .int .i64 (0 : Int), .slice Sl.nil.base Sl.nil.len Sl.nil.cap] ty_scarpref6_Block;
              Ext vh4 vh10 ∧
              stCells (nw vh9) 0 [.int .i64 (iConv .i64 c7), .int .i64 (iConv .i64 c), .int .i64 (iConv .i64 c2), .int .i64 (iConv .i64 c4), .slice s.base s.len s.cap] vh10 fun vh11 =>
              ∃ c8 : Int, ∃ c9 : Int, ∃ c10 : Int, ∃ c11 : Int, ∃ c12 : Sl, hcell vh11 ((nw vh9)) = some (.int .i64 c8) ∧ hcell vh11 ((nw vh9).add 1) = some (.int .i64 c9) ∧ hcell vh11 ((nw vh9).add 2) = some (.int .i64 c10) ∧ hcell vh11 ((nw vh9).add 3) = some (.int .i64 c11) ∧ hcell vh11 ((nw vh9).add 4) = some (.slice c12.base c12.len c12.cap) ∧
              HCalls Try.prog fn_scarpref6_Encode #[.agg #[.int .i64 c8, .int .i64 c9, .int .i64 c10, .int .i64 c11, .slice c12.base c12.len c12.cap]] vh11 fun r3 vh12 =>
              ∃ c13 : Sl, ∃ c14 : Int, r3 = .tuple #[.slice c13.base c13.len c13.cap, .int .i64 c14] ∧
              IfB (c14 != (0 : Int)) (stCells (nw h) 0 [.int .i64 (0 : Int), .int .i64 (0 : Int), .int .i64 (0 : Int), .int .i64 (0 : Int), .slice Sl.nil.base Sl.nil.len Sl.nil.cap] vh12 fun vh13 =>
                ∃ x20 : Int, ∃ x21 : Int, ∃ x22 : Int, ∃ x23 : Int, ∃ x24 : Sl, hcell vh13 ((nw h)) = some (.int .i64 x20) ∧ hcell vh13 ((nw h).add 1) = some (.int .i64 x21) ∧ hcell vh13 ((nw h).add 2) = some (.int .i64 x22) ∧ hcell vh13 ((nw h).add 3) = some (.int .i64 x23) ∧ hcell vh13 ((nw h).add 4) = some (.slice x24.base x24.len x24.cap) ∧
                R (.tuple #[.agg #[.int .i64 x20, .int .i64 x21, .int .i64 x22, .int .i64 x23, .slice x24.base x24.len x24.cap], .int .i64 (13 : Int)]) vh13)
              (∃ bs : List UInt8, bs.length = c13.len ∧ RdC vh12 c13.base (bs.map fun x => .int .u8 (x.toNat : Int)) ∧
                ∃ bs1 : List UInt8, bs1.length = p.len ∧ RdC vh12 p.base (bs1.map fun x => .int .u8 (x.toNat : Int)) ∧
                IfB (!((ByteArray.mk bs.toArray).toList == (ByteArray.mk bs1.toArray).toList)) (stCells (nw h) 0 [.int .i64 (0 : Int), .int .i64 (0 : Int), .int .i64 (0 : Int), .int .i64 (0 : Int), .slice Sl.nil.base Sl.nil.len Sl.nil.cap] vh12 fun vh14 =>
                  ∃ x25 : Int, ∃ x26 : Int, ∃ x27 : Int, ∃ x28 : Int, ∃ x29 : Sl, hcell vh14 ((nw h)) = some (.int .i64 x25) ∧ hcell vh14 ((nw h).add 1) = some (.int .i64 x26) ∧ hcell vh14 ((nw h).add 2) = some (.int .i64 x27) ∧ hcell vh14 ((nw h).add 3) = some (.int .i64 x28) ∧ hcell vh14 ((nw h).add 4) = some (.slice x29.base x29.len x29.cap) ∧
                  R (.tuple #[.agg #[.int .i64 x25, .int .i64 x26, .int .i64 x27, .int .i64 x28, .slice x29.base x29.len x29.cap], .int .i64 (13 : Int)]) vh14)
                (∃ c15 : Int, ∃ c16 : Int, ∃ c17 : Int, ∃ c18 : Int, ∃ c19 : Sl, hcell vh12 ((nw vh9)) = some (.int .i64 c15) ∧ hcell vh12 ((nw vh9).add 1) = some (.int .i64 c16) ∧ hcell vh12 ((nw vh9).add 2) = some (.int .i64 c17) ∧ hcell vh12 ((nw vh9).add 3) = some (.int .i64 c18) ∧ hcell vh12 ((nw vh9).add 4) = some (.slice c19.base c19.len c19.cap) ∧
                  stCells (nw h) 0 [.int .i64 c15, .int .i64 c16, .int .i64 c17, .int .i64 c18, .slice c19.base c19.len c19.cap] vh12 fun vh15 =>
                  ∃ x30 : Int, ∃ x31 : Int, ∃ x32 : Int, ∃ x33 : Int, ∃ x34 : Sl, hcell vh15 ((nw h)) = some (.int .i64 x30) ∧ hcell vh15 ((nw h).add 1) = some (.int .i64 x31) ∧ hcell vh15 ((nw h).add 2) = some (.int .i64 x32) ∧ hcell vh15 ((nw h).add 3) = some (.int .i64 x33) ∧ hcell vh15 ((nw h).add 4) = some (.slice x34.base x34.len x34.cap) ∧
                  R (.tuple #[.agg #[.int .i64 x30, .int .i64 x31, .int .i64 x32, .int .i64 x33, .slice x34.base x34.len x34.cap], .int .i64 (0 : Int)]) vh15))) ∧
            (let vh16 := alc vh8 [.int .i64 (0 : Int), .int .i64 (0 : Int), .int .i64 (0 : Int), .int .i64 (0 : Int), .slice Sl.nil.base Sl.nil.len Sl.nil.cap] ty_scarpref6_Block;
              Ext vh4 vh16 ∧
              AppC ty_uint8 1 1 #[.int .u8 (0 : Int)] (Sl.mk (some (nw vh4)) 0 0) (cutSl p (18 : Int) (iAdd .i64 (18 : Int) (iConv .i64 c6)) (p.cap : Int) 1) vh16 fun s1 vh17 =>
              Ext vh4 vh17 ∧
              stCells (nw vh8) 0 [.int .i64 (iConv .i64 c7), .int .i64 (iConv .i64 c), .int .i64 (iConv .i64 c2), .int .i64 (iConv .i64 c4), .slice s1.base s1.len s1.cap] vh17 fun vh18 =>
              ∃ c20 : Int, ∃ c21 : Int, ∃ c22 : Int, ∃ c23 : Int, ∃ c24 : Sl, hcell vh18 ((nw vh8)) = some (.int .i64 c20) ∧ hcell vh18 ((nw vh8).add 1) = some (.int .i64 c21) ∧ hcell vh18 ((nw vh8).add 2) = some (.int .i64 c22) ∧ hcell vh18 ((nw vh8).add 3) = some (.int .i64 c23) ∧ hcell vh18 ((nw vh8).add 4) = some (.slice c24.base c24.len c24.cap) ∧
              HCalls Try.prog fn_scarpref6_Encode #[.agg #[.int .i64 c20, .int .i64 c21, .int .i64 c22, .int .i64 c23, .slice c24.base c24.len c24.cap]] vh18 fun r4 vh19 =>
              ∃ c25 : Sl, ∃ c26 : Int, r4 = .tuple #[.slice c25.base c25.len c25.cap, .int .i64 c26] ∧
              IfB (c26 != (0 : Int)) (stCells (nw h) 0 [.int .i64 (0 : Int), .int .i64 (0 : Int), .int .i64 (0 : Int), .int .i64 (0 : Int), .slice Sl.nil.base Sl.nil.len Sl.nil.cap] vh19 fun vh20 =>
                ∃ x35 : Int, ∃ x36 : Int, ∃ x37 : Int, ∃ x38 : Int, ∃ x39 : Sl, hcell vh20 ((nw h)) = some (.int .i64 x35) ∧ hcell vh20 ((nw h).add 1) = some (.int .i64 x36) ∧ hcell vh20 ((nw h).add 2) = some (.int .i64 x37) ∧ hcell vh20 ((nw h).add 3) = some (.int .i64 x38) ∧ hcell vh20 ((nw h).add 4) = some (.slice x39.base x39.len x39.cap) ∧
                R (.tuple #[.agg #[.int .i64 x35, .int .i64 x36, .int .i64 x37, .int .i64 x38, .slice x39.base x39.len x39.cap], .int .i64 (13 : Int)]) vh20)
              (∃ bs2 : List UInt8, bs2.length = c25.len ∧ RdC vh19 c25.base (bs2.map fun x => .int .u8 (x.toNat : Int)) ∧
                ∃ bs3 : List UInt8, bs3.length = p.len ∧ RdC vh19 p.base (bs3.map fun x => .int .u8 (x.toNat : Int)) ∧
                IfB (!((ByteArray.mk bs2.toArray).toList == (ByteArray.mk bs3.toArray).toList)) (stCells (nw h) 0 [.int .i64 (0 : Int), .int .i64 (0 : Int), .int .i64 (0 : Int), .int .i64 (0 : Int), .slice Sl.nil.base Sl.nil.len Sl.nil.cap] vh19 fun vh21 =>
                  ∃ x40 : Int, ∃ x41 : Int, ∃ x42 : Int, ∃ x43 : Int, ∃ x44 : Sl, hcell vh21 ((nw h)) = some (.int .i64 x40) ∧ hcell vh21 ((nw h).add 1) = some (.int .i64 x41) ∧ hcell vh21 ((nw h).add 2) = some (.int .i64 x42) ∧ hcell vh21 ((nw h).add 3) = some (.int .i64 x43) ∧ hcell vh21 ((nw h).add 4) = some (.slice x44.base x44.len x44.cap) ∧
                  R (.tuple #[.agg #[.int .i64 x40, .int .i64 x41, .int .i64 x42, .int .i64 x43, .slice x44.base x44.len x44.cap], .int .i64 (13 : Int)]) vh21)
                (∃ c27 : Int, ∃ c28 : Int, ∃ c29 : Int, ∃ c30 : Int, ∃ c31 : Sl, hcell vh19 ((nw vh8)) = some (.int .i64 c27) ∧ hcell vh19 ((nw vh8).add 1) = some (.int .i64 c28) ∧ hcell vh19 ((nw vh8).add 2) = some (.int .i64 c29) ∧ hcell vh19 ((nw vh8).add 3) = some (.int .i64 c30) ∧ hcell vh19 ((nw vh8).add 4) = some (.slice c31.base c31.len c31.cap) ∧
                  stCells (nw h) 0 [.int .i64 c27, .int .i64 c28, .int .i64 c29, .int .i64 c30, .slice c31.base c31.len c31.cap] vh19 fun vh22 =>
                  ∃ x45 : Int, ∃ x46 : Int, ∃ x47 : Int, ∃ x48 : Int, ∃ x49 : Sl, hcell vh22 ((nw h)) = some (.int .i64 x45) ∧ hcell vh22 ((nw h).add 1) = some (.int .i64 x46) ∧ hcell vh22 ((nw h).add 2) = some (.int .i64 x47) ∧ hcell vh22 ((nw h).add 3) = some (.int .i64 x48) ∧ hcell vh22 ((nw h).add 4) = some (.slice x49.base x49.len x49.cap) ∧
                  R (.tuple #[.agg #[.int .i64 x45, .int .i64 x46, .int .i64 x47, .int .i64 x48, .slice x49.base x49.len x49.cap], .int .i64 (0 : Int)]) vh22)))) ∧
          (let vh23 := alc vh4 [.int .i64 (0 : Int), .int .i64 (0 : Int), .int .i64 (0 : Int), .int .i64 (0 : Int), .slice Sl.nil.base Sl.nil.len Sl.nil.cap] ty_scarpref6_Block;
            Ext vh4 vh23 ∧
            let vh24 := alc vh23 [] ty_uint8;
            Ext vh4 vh24 ∧
            AppC ty_uint8 1 1 #[.int .u8 (0 : Int)] (Sl.mk (some (nw vh23)) 0 0) (cutSl p (18 : Int) (iAdd .i64 (18 : Int) (iConv .i64 c6)) (p.cap : Int) 1) vh24 fun s2 vh25 =>
            Ext vh4 vh25 ∧
            stCells (nw vh4) 0 [.int .i64 (iConv .i64 c7), .int .i64 (iConv .i64 c), .int .i64 (iConv .i64 c2), .int .i64 (iConv .i64 c4), .slice s2.base s2.len s2.cap] vh25 fun vh26 =>
            ∃ c32 : Int, ∃ c33 : Int, ∃ c34 : Int, ∃ c35 : Int, ∃ c36 : Sl, hcell vh26 ((nw vh4)) = some (.int .i64 c32) ∧ hcell vh26 ((nw vh4).add 1) = some (.int .i64 c33) ∧ hcell vh26 ((nw vh4).add 2) = some (.int .i64 c34) ∧ hcell vh26 ((nw vh4).add 3) = some (.int .i64 c35) ∧ hcell vh26 ((nw vh4).add 4) = some (.slice c36.base c36.len c36.cap) ∧
            HCalls Try.prog fn_scarpref6_Encode #[.agg #[.int .i64 c32, .int .i64 c33, .int .i64 c34, .int .i64 c35, .slice c36.base c36.len c36.cap]] vh26 fun r5 vh27 =>
            ∃ c37 : Sl, ∃ c38 : Int, r5 = .tuple #[.slice c37.base c37.len c37.cap, .int .i64 c38] ∧
            IfB (c38 != (0 : Int)) (stCells (nw h) 0 [.int .i64 (0 : Int), .int .i64 (0 : Int), .int .i64 (0 : Int), .int .i64 (0 : Int), .slice Sl.nil.base Sl.nil.len Sl.nil.cap] vh27 fun vh28 =>
              ∃ x50 : Int, ∃ x51 : Int, ∃ x52 : Int, ∃ x53 : Int, ∃ x54 : Sl, hcell vh28 ((nw h)) = some (.int .i64 x50) ∧ hcell vh28 ((nw h).add 1) = some (.int .i64 x51) ∧ hcell vh28 ((nw h).add 2) = some (.int .i64 x52) ∧ hcell vh28 ((nw h).add 3) = some (.int .i64 x53) ∧ hcell vh28 ((nw h).add 4) = some (.slice x54.base x54.len x54.cap) ∧
              R (.tuple #[.agg #[.int .i64 x50, .int .i64 x51, .int .i64 x52, .int .i64 x53, .slice x54.base x54.len x54.cap], .int .i64 (13 : Int)]) vh28)
            (∃ bs4 : List UInt8, bs4.length = c37.len ∧ RdC vh27 c37.base (bs4.map fun x => .int .u8 (x.toNat : Int)) ∧
              ∃ bs5 : List UInt8, bs5.length = p.len ∧ RdC vh27 p.base (bs5.map fun x => .int .u8 (x.toNat : Int)) ∧
              IfB (!((ByteArray.mk bs4.toArray).toList == (ByteArray.mk bs5.toArray).toList)) (stCells (nw h) 0 [.int .i64 (0 : Int), .int .i64 (0 : Int), .int .i64 (0 : Int), .int .i64 (0 : Int), .slice Sl.nil.base Sl.nil.len Sl.nil.cap] vh27 fun vh29 =>
                ∃ x55 : Int, ∃ x56 : Int, ∃ x57 : Int, ∃ x58 : Int, ∃ x59 : Sl, hcell vh29 ((nw h)) = some (.int .i64 x55) ∧ hcell vh29 ((nw h).add 1) = some (.int .i64 x56) ∧ hcell vh29 ((nw h).add 2) = some (.int .i64 x57) ∧ hcell vh29 ((nw h).add 3) = some (.int .i64 x58) ∧ hcell vh29 ((nw h).add 4) = some (.slice x59.base x59.len x59.cap) ∧
                R (.tuple #[.agg #[.int .i64 x55, .int .i64 x56, .int .i64 x57, .int .i64 x58, .slice x59.base x59.len x59.cap], .int .i64 (13 : Int)]) vh29)
              (∃ c39 : Int, ∃ c40 : Int, ∃ c41 : Int, ∃ c42 : Int, ∃ c43 : Sl, hcell vh27 ((nw vh4)) = some (.int .i64 c39) ∧ hcell vh27 ((nw vh4).add 1) = some (.int .i64 c40) ∧ hcell vh27 ((nw vh4).add 2) = some (.int .i64 c41) ∧ hcell vh27 ((nw vh4).add 3) = some (.int .i64 c42) ∧ hcell vh27 ((nw vh4).add 4) = some (.slice c43.base c43.len c43.cap) ∧
                stCells (nw h) 0 [.int .i64 c39, .int .i64 c40, .int .i64 c41, .int .i64 c42, .slice c43.base c43.len c43.cap] vh27 fun vh30 =>
                ∃ x60 : Int, ∃ x61 : Int, ∃ x62 : Int, ∃ x63 : Int, ∃ x64 : Sl, hcell vh30 ((nw h)) = some (.int .i64 x60) ∧ hcell vh30 ((nw h).add 1) = some (.int .i64 x61) ∧ hcell vh30 ((nw h).add 2) = some (.int .i64 x62) ∧ hcell vh30 ((nw h).add 3) = some (.int .i64 x63) ∧ hcell vh30 ((nw h).add 4) = some (.slice x64.base x64.len x64.cap) ∧
                R (.tuple #[.agg #[.int .i64 x60, .int .i64 x61, .int .i64 x62, .int .i64 x63, .slice x64.base x64.len x64.cap], .int .i64 (0 : Int)]) vh30)))))))
theorem scarpref6_Decode_vc {p : Sl} {h : Hp} {R : Value → Hp → Prop} (H : vcscarpref6_Decode p h R) : HCalls Try.prog fn_scarpref6_Decode #[.slice p.base p.len p.cap] h R :=
  vc_fn (annOf [] []) Try.func30 [.slice p.base p.len p.cap] (by kernel_rfl) (V := vcscarpref6_Decode p h R) (by kernel_rfl) H

def vcscarpref11_made (data : Sl) (c : Int) (c1 : Int) (c2 : Int) (c3 : Int) (c4 : Sl) (h : Hp) (R : Value → Hp → Prop) : Prop :=
  let vh := alc h [.int .i64 c, .int .i64 c1, .int .i64 c2, .int .i64 c3, .slice c4.base c4.len c4.cap] ty_scarpref6_Block;
  let vh1 := alc vh [.int .i64 (0 : Int), .slice Sl.nil.base Sl.nil.len Sl.nil.cap] ty_api_Batch;
  ∃ c5 : Int, hcell vh1 ((nw h).add 2) = some (.int .i64 c5) ∧
  let vh2 := alc vh1 [.int .i64 (0 : Int), .slice Sl.nil.base Sl.nil.len Sl.nil.cap] ty_api_Batch;
  stCells (nw vh1) 0 [.int .i64 c5, .slice Sl.nil.base Sl.nil.len Sl.nil.cap] vh2 fun vh3 =>
  ∃ c6 : Sl, hcell vh3 ((nw h).add 4) = some (.slice c6.base c6.len c6.cap) ∧
  IfB (decide ((c6.len : Int) < (9 : Int))) (∃ c7 : Int, ∃ c8 : Sl, hcell vh3 ((nw vh1)) = some (.int .i64 c7) ∧ hcell vh3 ((nw vh1).add 1) = some (.slice c8.base c8.len c8.cap) ∧
    stCells (nw vh) 0 [.int .i64 c7, .slice c8.base c8.len c8.cap] vh3 fun vh4 =>
    ∃ x : Int, ∃ x1 : Sl, hcell vh4 ((nw vh)) = some (.int .i64 x) ∧ hcell vh4 ((nw vh).add 1) = some (.slice x1.base x1.len x1.cap) ∧
    R (.tuple #[.agg #[.int .i64 x, .slice x1.base x1.len x1.cap], .bool false]) vh4)
  (∃ c9 : Sl, hcell vh3 ((nw h).add 4) = some (.slice c9.base c9.len c9.cap) ∧
    HCalls Try.prog fn_scarpref6_Get #[.slice c9.base c9.len c9.cap, .int .i64 (8 : Int)] vh3 fun r vh5 =>
    ∃ c10 : Int, ∃ c11 : Bool, r = .tuple #[.int .u64 c10, .bool c11] ∧
    ∃ c12 : Sl, hcell vh5 ((nw h).add 4) = some (.slice c12.base c12.len c12.cap) ∧
    ∃ a : Addr, c12.base = some a ∧ 0 ≤ (8 : Int) ∧ (8 : Int) < (c12.len : Int) ∧
    ∃ c13 : Int, hcell vh5 (a.add (((8 : Int)).toNat * 1)) = some (.int .u8 c13) ∧
    IfB (decide ((iConv .i64 c13) < (1 : Int))) (∃ c14 : Int, ∃ c15 : Sl, hcell vh5 ((nw vh1)) = some (.int .i64 c14) ∧ hcell vh5 ((nw vh1).add 1) = some (.slice c15.base c15.len c15.cap) ∧
      stCells (nw vh) 0 [.int .i64 c14, .slice c15.base c15.len c15.cap] vh5 fun vh6 =>
      ∃ x2 : Int, ∃ x3 : Sl, hcell vh6 ((nw vh)) = some (.int .i64 x2) ∧ hcell vh6 ((nw vh).add 1) = some (.slice x3.base x3.len x3.cap) ∧
      R (.tuple #[.agg #[.int .i64 x2, .slice x3.base x3.len x3.cap], .bool false]) vh6)
    (∃ c16 : Sl, hcell vh5 ((nw h).add 4) = some (.slice c16.base c16.len c16.cap) ∧
      IfB ((c16.len : Int) != (iAdd .i64 (9 : Int) (iMul .i64 (3 : Int) (iConv .i64 c13)))) (∃ c17 : Int, ∃ c18 : Sl, hcell vh5 ((nw vh1)) = some (.int .i64 c17) ∧ hcell vh5 ((nw vh1).add 1) = some (.slice c18.base c18.len c18.cap) ∧
        stCells (nw vh) 0 [.int .i64 c17, .slice c18.base c18.len c18.cap] vh5 fun vh7 =>
        ∃ x4 : Int, ∃ x5 : Sl, hcell vh7 ((nw vh)) = some (.int .i64 x4) ∧ hcell vh7 ((nw vh).add 1) = some (.slice x5.base x5.len x5.cap) ∧
        R (.tuple #[.agg #[.int .i64 x4, .slice x5.base x5.len x5.cap], .bool false]) vh7)
      (IfB (decide (c10 > (1099511627776 : Int))) (∃ c19 : Int, ∃ c20 : Sl, hcell vh5 ((nw vh1)) = some (.int .i64 c19) ∧ hcell vh5 ((nw vh1).add 1) = some (.slice c20.base c20.len c20.cap) ∧
          stCells (nw vh) 0 [.int .i64 c19, .slice c20.base c20.len c20.cap] vh5 fun vh8 =>
          ∃ x6 : Int, ∃ x7 : Sl, hcell vh8 ((nw vh)) = some (.int .i64 x6) ∧ hcell vh8 ((nw vh).add 1) = some (.slice x7.base x7.len x7.cap) ∧
          R (.tuple #[.agg #[.int .i64 x6, .slice x7.base x7.len x7.cap], .bool false]) vh8)
        (∃ (vI : Int → Int → Int → Nat → Hp → Prop) (n : Nat), vI (iConv .i64 c10) (0 : Int) (0 : Int) n vh5 ∧
          ∀ _junk : Nat → Value, ∀ time : Int, ∀ vat : Int, ∀ i : Int, ∀ (n1 : Nat) (vh9 : Hp), vI time vat i n1 vh9 →
          IfB (decide (i < (iConv .i64 c13))) (∃ c21 : Sl, hcell vh9 ((nw h).add 4) = some (.slice c21.base c21.len c21.cap) ∧
            0 ≤ (iAdd .i64 (9 : Int) (iMul .i64 (2 : Int) i)) ∧ (iAdd .i64 (9 : Int) (iMul .i64 (2 : Int) i)) ≤ (c21.len : Int) ∧ (c21.len : Int) ≤ (c21.cap : Int) ∧ (c21.cap : Int) ≤ (c21.cap : Int) ∧
            HCalls Try.prog fn_scarpref6_Get #[.slice (cutSl c21 (iAdd .i64 (9 : Int) (iMul .i64 (2 : Int) i)) (c21.len : Int) (c21.cap : Int) 1).base (cutSl c21 (iAdd .i64 (9 : Int) (iMul .i64 (2 : Int) i)) (c21.len : Int) (c21.cap : Int) 1).len (cutSl c21 (iAdd .i64 (9 : Int) (iMul .i64 (2 : Int) i)) (c21.len : Int) (c21.cap : Int) 1).cap, .int .i64 (2 : Int)] vh9 fun r1 vh10 =>
            ∃ c22 : Int, ∃ c23 : Bool, r1 = .tuple #[.int .u64 c22, .bool c23] ∧
            let vh11 := alc vh10 [.int .i64 (0 : Int), .slice Sl.nil.base Sl.nil.len Sl.nil.cap] ty_api_Tx;
            stCells (nw vh10) 0 [.int .i64 (iAdd .i64 time (iConv .i64 c22)), .slice Sl.nil.base Sl.nil.len Sl.nil.cap] vh11 fun vh12 =>
            ∃ c24 : Sl, hcell vh12 ((nw h).add 4) = some (.slice c24.base c24.len c24.cap) ∧
            ∃ a1 : Addr, c24.base = some a1 ∧ 0 ≤ (iAdd .i64 (iAdd .i64 (9 : Int) (iMul .i64 (2 : Int) (iConv .i64 c13))) i) ∧ (iAdd .i64 (iAdd .i64 (9 : Int) (iMul .i64 (2 : Int) (iConv .i64 c13))) i) < (c24.len : Int) ∧
            ∃ c25 : Int, hcell vh12 (a1.add (((iAdd .i64 (iAdd .i64 (9 : Int) (iMul .i64 (2 : Int) (iConv .i64 c13))) i)).toNat * 1)) = some (.int .u8 c25) ∧
            IfB (decide ((iConv .i64 c25) > (iSub .i64 (data.len : Int) vat))) (∃ c26 : Int, ∃ c27 : Sl, hcell vh12 ((nw vh1)) = some (.int .i64 c26) ∧ hcell vh12 ((nw vh1).add 1) = some (.slice c27.base c27.len c27.cap) ∧
              stCells (nw vh) 0 [.int .i64 c26, .slice c27.base c27.len c27.cap] vh12 fun vh13 =>
              ∃ x8 : Int, ∃ x9 : Sl, hcell vh13 ((nw vh)) = some (.int .i64 x8) ∧ hcell vh13 ((nw vh).add 1) = some (.slice x9.base x9.len x9.cap) ∧
              R (.tuple #[.agg #[.int .i64 x8, .slice x9.base x9.len x9.cap], .bool false]) vh13)
            (∃ (vI1 : Int → Int → Nat → Hp → Prop) (n3 : Nat), vI1 vat (0 : Int) n3 vh12 ∧
              ∀ _junk : Nat → Value, ∀ vat1 : Int, ∀ j : Int, ∀ (n4 : Nat) (vh14 : Hp), vI1 vat1 j n4 vh14 →
              IfB (decide (j < (iConv .i64 c25))) (∃ c28 : Sl, hcell vh14 ((nw vh10).add 1) = some (.slice c28.base c28.len c28.cap) ∧
                ∃ a2 : Addr, data.base = some a2 ∧ 0 ≤ vat1 ∧ vat1 < (data.len : Int) ∧
                ∃ c29 : Int, hcell vh14 ((a2.add ((vat1).toNat * 5)).add 3) = some (.int .i64 c29) ∧
                ∃ a3 : Addr, data.base = some a3 ∧ 0 ≤ vat1 ∧ vat1 < (data.len : Int) ∧
                ∃ c30 : Sl, hcell vh14 ((a3.add ((vat1).toNat * 5)).add 4) = some (.slice c30.base c30.len c30.cap) ∧
                let vh15 := alc vh14 [.int .i64 c29, .slice c30.base c30.len c30.cap] ty_api_Put;
                Ext vh14 vh15 ∧
                AppC ty_api_Put 2 32 #[.int .i64 (0 : Int), .slice Sl.nil.base Sl.nil.len Sl.nil.cap] c28 (Sl.mk (some (nw vh14)) 1 1) vh15 fun s vh16 =>
                StOk vh16 ((nw vh10).add 1) ∧
                Lt (hset vh16 ((nw vh10).add 1) (.slice s.base s.len s.cap)) fun vh17 =>
                ∃ n5, n5 < n4 ∧ vI1 (iAdd .i64 vat1 (1 : Int)) (iAdd .i64 j (1 : Int)) n5 vh17)
              (∃ c31 : Sl, hcell vh14 ((nw vh1).add 1) = some (.slice c31.base c31.len c31.cap) ∧
                ∃ c32 : Int, ∃ c33 : Sl, hcell vh14 ((nw vh10)) = some (.int .i64 c32) ∧ hcell vh14 ((nw vh10).add 1) = some (.slice c33.base c33.len c33.cap) ∧
                let vh18 := alc vh14 [.int .i64 c32, .slice c33.base c33.len c33.cap] ty_api_Tx;
                AppC ty_api_Tx 2 32 #[.int .i64 (0 : Int), .slice Sl.nil.base Sl.nil.len Sl.nil.cap] c31 (Sl.mk (some (nw vh14)) 1 1) vh18 fun s1 vh19 =>
                StOk vh19 ((nw vh1).add 1) ∧
                Lt (hset vh19 ((nw vh1).add 1) (.slice s1.base s1.len s1.cap)) fun vh20 =>
                ∃ n2, n2 < n1 ∧ vI (iAdd .i64 time (iConv .i64 c22)) vat1 (iAdd .i64 i (1 : Int)) n2 vh20)))
          (∃ c34 : Int, ∃ c35 : Sl, hcell vh9 ((nw vh1)) = some (.int .i64 c34) ∧ hcell vh9 ((nw vh1).add 1) = some (.slice c35.base c35.len c35.cap) ∧
            stCells (nw vh) 0 [.int .i64 c34, .slice c35.base c35.len c35.cap] vh9 fun vh21 =>
            ∃ x10 : Int, ∃ x11 : Sl, hcell vh21 ((nw vh)) = some (.int .i64 x10) ∧ hcell vh21 ((nw vh).add 1) = some (.slice x11.base x11.len x11.cap) ∧
            R (.tuple #[.agg #[.int .i64 x10, .slice x11.base x11.len x11.cap], .bool (vat == (data.len : Int))]) vh21)))))
theorem scarpref11_made_vc {data : Sl} {c : Int} {c1 : Int} {c2 : Int} {c3 : Int} {c4 : Sl} {h : Hp} {R : Value → Hp → Prop} (H : vcscarpref11_made data c c1 c2 c3 c4 h R) : HCalls Try.prog fn_scarpref11_made #[.slice data.base data.len data.cap, .agg #[.int .i64 c, .int .i64 c1, .int .i64 c2, .int .i64 c3, .slice c4.base c4.len c4.cap]] h R :=
  vc_fn (annOf [(0, [(10, .int .i64), (11, .int .i64), (12, .int .i64)]), (1, [(11, .int .i64), (17, .int .i64)])] []) Try.func31 [.slice data.base data.len data.cap, .agg #[.int .i64 c, .int .i64 c1, .int .i64 c2, .int .i64 c3, .slice c4.base c4.len c4.cap]] (by kernel_rfl) (V := vcscarpref11_made data c c1 c2 c3 c4 h R) (by kernel_rfl) H

def vcscarpref11_SamePuts (a : Sl) (b : Sl) (h : Hp) (R : Value → Hp → Prop) : Prop :=
  IfB ((a.len : Int) != (b.len : Int)) (R (.bool false) h)
  (∃ (vI : Int → Nat → Hp → Prop) (n : Nat), vI (0 : Int) n h ∧
    ∀ _junk : Nat → Value, ∀ i : Int, ∀ (n1 : Nat) (vh : Hp), vI i n1 vh →
    IfB (decide (i < (a.len : Int))) (∃ a1 : Addr, a.base = some a1 ∧ 0 ≤ i ∧ i < (a.len : Int) ∧
      ∃ c : Int, hcell vh (a1.add ((i).toNat * 2)) = some (.int .i64 c) ∧
      ∃ a2 : Addr, b.base = some a2 ∧ 0 ≤ i ∧ i < (b.len : Int) ∧
      ∃ c1 : Int, hcell vh (a2.add ((i).toNat * 2)) = some (.int .i64 c1) ∧
      IfB (c != c1) ((R (.bool false) vh) ∧
        (R (.bool false) vh))
      (∃ a3 : Addr, a.base = some a3 ∧ 0 ≤ i ∧ i < (a.len : Int) ∧
        ∃ c2 : Sl, hcell vh ((a3.add ((i).toNat * 2)).add 1) = some (.slice c2.base c2.len c2.cap) ∧
        ∃ a4 : Addr, b.base = some a4 ∧ 0 ≤ i ∧ i < (b.len : Int) ∧
        ∃ c3 : Sl, hcell vh ((a4.add ((i).toNat * 2)).add 1) = some (.slice c3.base c3.len c3.cap) ∧
        (∃ bs : List UInt8, bs.length = c2.len ∧ RdC vh c2.base (bs.map fun x => .int .u8 (x.toNat : Int)) ∧
          Ext vh vh ∧
          ∃ bs1 : List UInt8, bs1.length = c3.len ∧ RdC vh c3.base (bs1.map fun x => .int .u8 (x.toNat : Int)) ∧
          Ext vh vh ∧
          IfB (!((ByteArray.mk bs.toArray).toList == (ByteArray.mk bs1.toArray).toList)) (R (.bool false) vh)
          (∃ n2, n2 < n1 ∧ vI (iAdd .i64 i (1 : Int)) n2 vh)) ∧
        (∃ bs2 : List UInt8, bs2.length = c3.len ∧ RdC vh c3.base (bs2.map fun x => .int .u8 (x.toNat : Int)) ∧
          Ext vh vh ∧
          ∃ bs3 : List UInt8, bs3.length = c2.len ∧ RdC vh c2.base (bs3.map fun x => .int .u8 (x.toNat : Int)) ∧
          Ext vh vh ∧
          IfB (!((ByteArray.mk bs3.toArray).toList == (ByteArray.mk bs2.toArray).toList)) (R (.bool false) vh)
          (∃ n2, n2 < n1 ∧ vI (iAdd .i64 i (1 : Int)) n2 vh))))
    (R (.bool true) vh))
theorem scarpref11_SamePuts_vc {a : Sl} {b : Sl} {h : Hp} {R : Value → Hp → Prop} (H : vcscarpref11_SamePuts a b h R) : HCalls Try.prog fn_scarpref11_SamePuts #[.slice a.base a.len a.cap, .slice b.base b.len b.cap] h R :=
  vc_fn (annOf [(0, [(5, .int .i64)])] []) Try.func33 [.slice a.base a.len a.cap, .slice b.base b.len b.cap] (by kernel_rfl) (V := vcscarpref11_SamePuts a b h R) (by kernel_rfl) H

def vcscarpalike_Txs (l : Sl) (top : Int) (h : Hp) (R : Value → Hp → Prop) : Prop :=
  let vh := alc h [.int .i64 (l.len : Int)] ty_int;
  HCalls Try.prog fn_scarpalike_Sum #[.int .i64 (0 : Int), .slice (Sl.mk (some (nw h)) 1 1).base (Sl.mk (some (nw h)) 1 1).len (Sl.mk (some (nw h)) 1 1).cap] vh fun r vh1 =>
  ∃ c : Int, r = .int .i64 c ∧
  ∃ (vI : Int → Int → Nat → Hp → Prop) (n : Nat), vI c (0 : Int) n vh1 ∧
  ∀ _junk : Nat → Value, ∀ n3 : Int, ∀ i : Int, ∀ (n1 : Nat) (vh2 : Hp), vI n3 i n1 vh2 →
  IfB (decide (i < (l.len : Int))) (IfB (decide (n3 ≤ top)) (∃ a : Addr, l.base = some a ∧ 0 ≤ i ∧ i < (l.len : Int) ∧
      ∃ c1 : Sl, hcell vh2 ((a.add ((i).toNat * 2)).add 1) = some (.slice c1.base c1.len c1.cap) ∧
      HCalls Try.prog fn_scarpalike_Puts #[.slice c1.base c1.len c1.cap, .int .i64 top] vh2 fun r1 vh3 =>
      ∃ c2 : Int, r1 = .int .i64 c2 ∧
      let vh4 := alc vh3 [.int .i64 c2] ty_int;
      HCalls Try.prog fn_scarpalike_Sum #[.int .i64 n3, .slice (Sl.mk (some (nw vh3)) 1 1).base (Sl.mk (some (nw vh3)) 1 1).len (Sl.mk (some (nw vh3)) 1 1).cap] vh4 fun r2 vh5 =>
      ∃ c3 : Int, r2 = .int .i64 c3 ∧
      ∃ n2, n2 < n1 ∧ vI c3 (iAdd .i64 i (1 : Int)) n2 vh5)
    (R (.int .i64 n3) vh2))
  (R (.int .i64 n3) vh2)
theorem scarpalike_Txs_vc {l : Sl} {top : Int} {h : Hp} {R : Value → Hp → Prop} (H : vcscarpalike_Txs l top h R) : HCalls Try.prog fn_scarpalike_Txs #[.slice l.base l.len l.cap, .int .i64 top] h R :=
  vc_fn (annOf [(0, [(5, .int .i64), (6, .int .i64)])] []) Try.func34 [.slice l.base l.len l.cap, .int .i64 top] (by kernel_rfl) (V := vcscarpalike_Txs l top h R) (by kernel_rfl) H

def vcbits_put (v : Int) (n : Int) (h : Hp) (R : Value → Hp → Prop) : Prop :=
  MkC ty_uint8 1 #[.int .u8 (0 : Int)] n n h fun s vh =>
  ∃ (vI : Int → Nat → Hp → Prop) (n1 : Nat), vI (0 : Int) n1 vh ∧
  ∀ _junk : Nat → Value, ∀ t11 : Int, ∀ (n2 : Nat) (vh1 : Hp), vI t11 n2 vh1 →
  IfB (decide (t11 < (s.len : Int))) (0 ≤ (iMul .i64 (8 : Int) t11) ∧
    ∃ a : Addr, s.base = some a ∧ 0 ≤ t11 ∧ t11 < (s.len : Int) ∧
    StOk vh1 (a.add ((t11).toNat * 1)) ∧
    Lt (hset vh1 (a.add ((t11).toNat * 1)) (.int .u8 (iConv .u8 (iShr .u64 v (iMul .i64 (8 : Int) t11))))) fun vh2 =>
    ∃ n3, n3 < n2 ∧ vI (iAdd .i64 t11 (1 : Int)) n3 vh2)
  (R (.slice s.base s.len s.cap) vh1)
theorem bits_put_vc {v : Int} {n : Int} {h : Hp} {R : Value → Hp → Prop} (H : vcbits_put v n h R) : HCalls Try.prog fn_bits_put #[.int .u64 v, .int .i64 n] h R :=
  vc_fn (annOf [(0, [(11, .int .i64)])] []) Try.func35 [.int .u64 v, .int .i64 n] (by kernel_rfl) (V := vcbits_put v n h R) (by kernel_rfl) H

def vcframe_within (n : Int) (low : Int) (high : Int) (h : Hp) (R : Value → Hp → Prop) : Prop :=
  IfB (decide (low ≤ n)) (R (.bool (decide (n ≤ high))) h)
  (R (.bool false) h)
theorem frame_within_vc {n : Int} {low : Int} {high : Int} {h : Hp} {R : Value → Hp → Prop} (H : vcframe_within n low high h R) : HCalls Try.prog fn_frame_within #[.int .i64 n, .int .i64 low, .int .i64 high] h R :=
  vc_fn (annOf [] []) Try.func36 [.int .i64 n, .int .i64 low, .int .i64 high] (by kernel_rfl) (V := vcframe_within n low high h R) (by kernel_rfl) H

def vcslices_Concat_sbytebyte (slices : Sl) (h : Hp) (R : Value → Hp → Prop) : Prop :=
  ∃ (vI : Int → Int → Nat → Hp → Prop) (n : Nat), vI (0 : Int) (0 : Int) n h ∧
  ∀ _junk : Nat → Value, ∀ size : Int, ∀ t11 : Int, ∀ (n1 : Nat) (vh : Hp), vI size t11 n1 vh →
  IfB (decide (t11 < (slices.len : Int))) (∃ a : Addr, slices.base = some a ∧ 0 ≤ t11 ∧ t11 < (slices.len : Int) ∧
    ∃ c : Sl, hcell vh (a.add ((t11).toNat * 1)) = some (.slice c.base c.len c.cap) ∧
    IfB (decide ((iAdd .i64 size (c.len : Int)) < (0 : Int))) (False)
    (∃ n2, n2 < n1 ∧ vI (iAdd .i64 size (c.len : Int)) (iAdd .i64 t11 (1 : Int)) n2 vh))
  (HCalls Try.prog fn_slices_Grow_sbytebyte #[.slice Sl.nil.base Sl.nil.len Sl.nil.cap, .int .i64 size] vh fun r vh1 =>
    ∃ c1 : Sl, r = .slice c1.base c1.len c1.cap ∧
    ∃ (vI1 : Sl → Int → Nat → Hp → Prop) (n3 : Nat), vI1 c1 (0 : Int) n3 vh1 ∧
    ∀ _junk : Nat → Value, ∀ newslice : Sl, ∀ t27 : Int, ∀ (n4 : Nat) (vh2 : Hp), vI1 newslice t27 n4 vh2 →
    IfB (decide (t27 < (slices.len : Int))) (∃ a1 : Addr, slices.base = some a1 ∧ 0 ≤ t27 ∧ t27 < (slices.len : Int) ∧
      ∃ c2 : Sl, hcell vh2 (a1.add ((t27).toNat * 1)) = some (.slice c2.base c2.len c2.cap) ∧
      AppC ty_uint8 1 1 #[.int .u8 (0 : Int)] newslice c2 vh2 fun s vh3 =>
      ∃ n5, n5 < n4 ∧ vI1 s (iAdd .i64 t27 (1 : Int)) n5 vh3)
    (R (.slice newslice.base newslice.len newslice.cap) vh2))
theorem slices_Concat_sbytebyte_vc {slices : Sl} {h : Hp} {R : Value → Hp → Prop} (H : vcslices_Concat_sbytebyte slices h R) : HCalls Try.prog fn_slices_Concat_sbytebyte #[.slice slices.base slices.len slices.cap] h R :=
  vc_fn (annOf [(0, [(3, .int .i64), (11, .int .i64)]), (1, [(6, .sl), (27, .int .i64)])] []) Try.func37 [.slice slices.base slices.len slices.cap] (by kernel_rfl) (V := vcslices_Concat_sbytebyte slices h R) (by kernel_rfl) H

def vcbits_Put32 (v : Int) (h : Hp) (R : Value → Hp → Prop) : Prop :=
  HCalls Try.prog fn_bits_put #[.int .u64 (iConv .u64 v), .int .i64 (4 : Int)] h fun r vh =>
  ∃ c : Sl, r = .slice c.base c.len c.cap ∧
  R (.slice c.base c.len c.cap) vh
theorem bits_Put32_vc {v : Int} {h : Hp} {R : Value → Hp → Prop} (H : vcbits_Put32 v h R) : HCalls Try.prog fn_bits_Put32 #[.int .u32 v] h R :=
  vc_fn (annOf [] []) Try.func38 [.int .u32 v] (by kernel_rfl) (V := vcbits_Put32 v h R) (by kernel_rfl) H

def vccrc_Of (b : Sl) (h : Hp) (R : Value → Hp → Prop) : Prop :=
  HCalls Try.prog fn_crc_New #[] h fun r vh =>
  ∃ c : Option Addr, r = .pointer c ∧
  HCalls Try.prog fn_crc_Sum_Add #[.pointer c, .slice b.base b.len b.cap] vh fun r1 vh1 =>
  ∃ c1 : Option Addr, r1 = .pointer c1 ∧
  HCalls Try.prog fn_crc_Sum_Value #[.pointer c1] vh1 fun r2 vh2 =>
  ∃ c2 : Int, r2 = .int .u32 c2 ∧
  R (.int .u32 c2) vh2
theorem crc_Of_vc {b : Sl} {h : Hp} {R : Value → Hp → Prop} (H : vccrc_Of b h R) : HCalls Try.prog fn_crc_Of #[.slice b.base b.len b.cap] h R :=
  vc_fn (annOf [] []) Try.func39 [.slice b.base b.len b.cap] (by kernel_rfl) (V := vccrc_Of b h R) (by kernel_rfl) H

def vcslices_IndexFunc_sscarpapiPutscarpapiPut (s : Sl) (f : Nat) (h : Hp) (R : Value → Hp → Prop) : Prop :=
  ∃ (vI : Int → Nat → Hp → Prop) (n : Nat), vI (0 : Int) n h ∧
  ∀ _junk : Nat → Value, ∀ t8 : Int, ∀ (n1 : Nat) (vh : Hp), vI t8 n1 vh →
  IfB (decide (t8 < (s.len : Int))) (∃ a : Addr, s.base = some a ∧ 0 ≤ t8 ∧ t8 < (s.len : Int) ∧
    ∃ c : Int, ∃ c1 : Sl, hcell vh ((a.add ((t8).toNat * 2))) = some (.int .i64 c) ∧ hcell vh ((a.add ((t8).toNat * 2)).add 1) = some (.slice c1.base c1.len c1.cap) ∧
    HCalls Try.prog f #[.agg #[.int .i64 c, .slice c1.base c1.len c1.cap]] vh fun r vh1 =>
    ∃ c2 : Bool, r = .bool c2 ∧
    IfB c2 (R (.int .i64 t8) vh1)
    (∃ n2, n2 < n1 ∧ vI (iAdd .i64 t8 (1 : Int)) n2 vh1))
  (R (.int .i64 (-1 : Int)) vh)
theorem slices_IndexFunc_sscarpapiPutscarpapiPut_vc {s : Sl} {f : Nat} {h : Hp} {R : Value → Hp → Prop} (H : vcslices_IndexFunc_sscarpapiPutscarpapiPut s f h R) : HCalls Try.prog fn_slices_IndexFunc_sscarpapiPutscarpapiPut #[.slice s.base s.len s.cap, .func (.func f) #[] #[]] h R :=
  vc_fn (annOf [(0, [(8, .int .i64)])] []) Try.func40 [.slice s.base s.len s.cap, .func (.func f) #[] #[]] (by kernel_rfl) (V := vcslices_IndexFunc_sscarpapiPutscarpapiPut s f h R) (by kernel_rfl) H

def vcframe_Decode (p : Sl) (h : Hp) (R : Value → Hp → Prop) : Prop :=
  let vh := alc h [.int .i64 (0 : Int), .int .i64 (0 : Int), .int .i64 (0 : Int), .int .i64 (0 : Int), .slice Sl.nil.base Sl.nil.len Sl.nil.cap] ty_frame_Block;
  IfB ((p.len : Int) != (64 : Int)) (stCells (nw h) 0 [.int .i64 (0 : Int), .int .i64 (0 : Int), .int .i64 (0 : Int), .int .i64 (0 : Int), .slice Sl.nil.base Sl.nil.len Sl.nil.cap] vh fun vh1 =>
    ∃ x : Int, ∃ x1 : Int, ∃ x2 : Int, ∃ x3 : Int, ∃ x4 : Sl, hcell vh1 ((nw h)) = some (.int .i64 x) ∧ hcell vh1 ((nw h).add 1) = some (.int .i64 x1) ∧ hcell vh1 ((nw h).add 2) = some (.int .i64 x2) ∧ hcell vh1 ((nw h).add 3) = some (.int .i64 x3) ∧ hcell vh1 ((nw h).add 4) = some (.slice x4.base x4.len x4.cap) ∧
    R (.tuple #[.agg #[.int .i64 x, .int .i64 x1, .int .i64 x2, .int .i64 x3, .slice x4.base x4.len x4.cap], .int .i64 (3 : Int)]) vh1)
  (let vh2 := alc vh [.int .i64 (0 : Int), .int .i64 (0 : Int), .int .i64 (0 : Int), .int .i64 (0 : Int), .slice Sl.nil.base Sl.nil.len Sl.nil.cap] ty_frame_Block;
    ∃ (vI : Bool → Nat → Hp → Prop) (n : Nat), vI false n vh2 ∧
    ∀ _junk : Nat → Value, ∀ ok : Bool, ∀ (n1 : Nat) (vh3 : Hp), vI ok n1 vh3 →
    ∃ a : Addr, p.base = some a ∧ 0 ≤ (1 : Int) ∧ (1 : Int) < (p.len : Int) ∧
    ∃ c : Int, hcell vh3 (a.add (((1 : Int)).toNat * 1)) = some (.int .u8 c) ∧
    0 ≤ (6 : Int) ∧ (6 : Int) ≤ (p.len : Int) ∧ (p.len : Int) ≤ (p.cap : Int) ∧ (p.cap : Int) ≤ (p.cap : Int) ∧
    HCalls Try.prog fn_bits_Get64 #[.slice (cutSl p (6 : Int) (p.len : Int) (p.cap : Int) 1).base (cutSl p (6 : Int) (p.len : Int) (p.cap : Int) 1).len (cutSl p (6 : Int) (p.len : Int) (p.cap : Int) 1).cap] vh3 fun r vh4 =>
    ∃ c1 : Int, ∃ c2 : Bool, r = .tuple #[.int .u64 c1, .bool c2] ∧
    IfB (decide ((iConv .i64 c) > (40 : Int))) (IfB (!ok) (stCells (nw h) 0 [.int .i64 (0 : Int), .int .i64 (0 : Int), .int .i64 (0 : Int), .int .i64 (0 : Int), .slice Sl.nil.base Sl.nil.len Sl.nil.cap] vh4 fun vh5 =>
        ∃ x5 : Int, ∃ x6 : Int, ∃ x7 : Int, ∃ x8 : Int, ∃ x9 : Sl, hcell vh5 ((nw h)) = some (.int .i64 x5) ∧ hcell vh5 ((nw h).add 1) = some (.int .i64 x6) ∧ hcell vh5 ((nw h).add 2) = some (.int .i64 x7) ∧ hcell vh5 ((nw h).add 3) = some (.int .i64 x8) ∧ hcell vh5 ((nw h).add 4) = some (.slice x9.base x9.len x9.cap) ∧
        R (.tuple #[.agg #[.int .i64 x5, .int .i64 x6, .int .i64 x7, .int .i64 x8, .slice x9.base x9.len x9.cap], .int .i64 (13 : Int)]) vh5)
      (∃ c3 : Int, ∃ c4 : Int, ∃ c5 : Int, ∃ c6 : Int, ∃ c7 : Sl, hcell vh4 ((nw vh)) = some (.int .i64 c3) ∧ hcell vh4 ((nw vh).add 1) = some (.int .i64 c4) ∧ hcell vh4 ((nw vh).add 2) = some (.int .i64 c5) ∧ hcell vh4 ((nw vh).add 3) = some (.int .i64 c6) ∧ hcell vh4 ((nw vh).add 4) = some (.slice c7.base c7.len c7.cap) ∧
        stCells (nw h) 0 [.int .i64 c3, .int .i64 c4, .int .i64 c5, .int .i64 c6, .slice c7.base c7.len c7.cap] vh4 fun vh6 =>
        ∃ x10 : Int, ∃ x11 : Int, ∃ x12 : Int, ∃ x13 : Int, ∃ x14 : Sl, hcell vh6 ((nw h)) = some (.int .i64 x10) ∧ hcell vh6 ((nw h).add 1) = some (.int .i64 x11) ∧ hcell vh6 ((nw h).add 2) = some (.int .i64 x12) ∧ hcell vh6 ((nw h).add 3) = some (.int .i64 x13) ∧ hcell vh6 ((nw h).add 4) = some (.slice x14.base x14.len x14.cap) ∧
        R (.tuple #[.agg #[.int .i64 x10, .int .i64 x11, .int .i64 x12, .int .i64 x13, .slice x14.base x14.len x14.cap], .int .i64 (0 : Int)]) vh6))
    (IfB (decide (c1 > (1099511627776 : Int))) (IfB (!ok) (stCells (nw h) 0 [.int .i64 (0 : Int), .int .i64 (0 : Int), .int .i64 (0 : Int), .int .i64 (0 : Int), .slice Sl.nil.base Sl.nil.len Sl.nil.cap] vh4 fun vh7 =>
          ∃ x15 : Int, ∃ x16 : Int, ∃ x17 : Int, ∃ x18 : Int, ∃ x19 : Sl, hcell vh7 ((nw h)) = some (.int .i64 x15) ∧ hcell vh7 ((nw h).add 1) = some (.int .i64 x16) ∧ hcell vh7 ((nw h).add 2) = some (.int .i64 x17) ∧ hcell vh7 ((nw h).add 3) = some (.int .i64 x18) ∧ hcell vh7 ((nw h).add 4) = some (.slice x19.base x19.len x19.cap) ∧
          R (.tuple #[.agg #[.int .i64 x15, .int .i64 x16, .int .i64 x17, .int .i64 x18, .slice x19.base x19.len x19.cap], .int .i64 (13 : Int)]) vh7)
        (∃ c8 : Int, ∃ c9 : Int, ∃ c10 : Int, ∃ c11 : Int, ∃ c12 : Sl, hcell vh4 ((nw vh)) = some (.int .i64 c8) ∧ hcell vh4 ((nw vh).add 1) = some (.int .i64 c9) ∧ hcell vh4 ((nw vh).add 2) = some (.int .i64 c10) ∧ hcell vh4 ((nw vh).add 3) = some (.int .i64 c11) ∧ hcell vh4 ((nw vh).add 4) = some (.slice c12.base c12.len c12.cap) ∧
          stCells (nw h) 0 [.int .i64 c8, .int .i64 c9, .int .i64 c10, .int .i64 c11, .slice c12.base c12.len c12.cap] vh4 fun vh8 =>
          ∃ x20 : Int, ∃ x21 : Int, ∃ x22 : Int, ∃ x23 : Int, ∃ x24 : Sl, hcell vh8 ((nw h)) = some (.int .i64 x20) ∧ hcell vh8 ((nw h).add 1) = some (.int .i64 x21) ∧ hcell vh8 ((nw h).add 2) = some (.int .i64 x22) ∧ hcell vh8 ((nw h).add 3) = some (.int .i64 x23) ∧ hcell vh8 ((nw h).add 4) = some (.slice x24.base x24.len x24.cap) ∧
          R (.tuple #[.agg #[.int .i64 x20, .int .i64 x21, .int .i64 x22, .int .i64 x23, .slice x24.base x24.len x24.cap], .int .i64 (0 : Int)]) vh8))
      (0 ≤ (2 : Int) ∧ (2 : Int) ≤ (p.len : Int) ∧ (p.len : Int) ≤ (p.cap : Int) ∧ (p.cap : Int) ≤ (p.cap : Int) ∧
        HCalls Try.prog fn_bits_Get32 #[.slice (cutSl p (2 : Int) (p.len : Int) (p.cap : Int) 1).base (cutSl p (2 : Int) (p.len : Int) (p.cap : Int) 1).len (cutSl p (2 : Int) (p.len : Int) (p.cap : Int) 1).cap] vh4 fun r1 vh9 =>
        ∃ c13 : Int, ∃ c14 : Bool, r1 = .tuple #[.int .u32 c13, .bool c14] ∧
        0 ≤ (14 : Int) ∧ (14 : Int) ≤ (p.len : Int) ∧ (p.len : Int) ≤ (p.cap : Int) ∧ (p.cap : Int) ≤ (p.cap : Int) ∧
        HCalls Try.prog fn_bits_Get32 #[.slice (cutSl p (14 : Int) (p.len : Int) (p.cap : Int) 1).base (cutSl p (14 : Int) (p.len : Int) (p.cap : Int) 1).len (cutSl p (14 : Int) (p.len : Int) (p.cap : Int) 1).cap] vh9 fun r2 vh10 =>
        ∃ c15 : Int, ∃ c16 : Bool, r2 = .tuple #[.int .u32 c15, .bool c16] ∧
        ∃ a1 : Addr, p.base = some a1 ∧ 0 ≤ (0 : Int) ∧ (0 : Int) < (p.len : Int) ∧
        ∃ c17 : Int, hcell vh10 (a1.add (((0 : Int)).toNat * 1)) = some (.int .u8 c17) ∧
        0 ≤ (18 : Int) ∧ (18 : Int) ≤ (iAdd .i64 (18 : Int) (iConv .i64 c)) ∧ (iAdd .i64 (18 : Int) (iConv .i64 c)) ≤ (p.cap : Int) ∧ (p.cap : Int) ≤ (p.cap : Int) ∧
        HCalls Try.prog fn_slices_Clone_sbytebyte #[.slice (cutSl p (18 : Int) (iAdd .i64 (18 : Int) (iConv .i64 c)) (p.cap : Int) 1).base (cutSl p (18 : Int) (iAdd .i64 (18 : Int) (iConv .i64 c)) (p.cap : Int) 1).len (cutSl p (18 : Int) (iAdd .i64 (18 : Int) (iConv .i64 c)) (p.cap : Int) 1).cap] vh10 fun r3 vh11 =>
        ∃ c18 : Sl, r3 = .slice c18.base c18.len c18.cap ∧
        Ext vh10 vh11 ∧
        stCells (nw vh) 0 [.int .i64 (iConv .i64 c17), .int .i64 (iConv .i64 c13), .int .i64 (iConv .i64 c1), .int .i64 (iConv .i64 c15), .slice c18.base c18.len c18.cap] vh11 fun vh12 =>
        ∃ c19 : Int, ∃ c20 : Int, ∃ c21 : Int, ∃ c22 : Int, ∃ c23 : Sl, hcell vh12 ((nw vh)) = some (.int .i64 c19) ∧ hcell vh12 ((nw vh).add 1) = some (.int .i64 c20) ∧ hcell vh12 ((nw vh).add 2) = some (.int .i64 c21) ∧ hcell vh12 ((nw vh).add 3) = some (.int .i64 c22) ∧ hcell vh12 ((nw vh).add 4) = some (.slice c23.base c23.len c23.cap) ∧
        HCalls Try.prog fn_frame_Encode #[.agg #[.int .i64 c19, .int .i64 c20, .int .i64 c21, .int .i64 c22, .slice c23.base c23.len c23.cap]] vh12 fun r4 vh13 =>
        ∃ c24 : Sl, ∃ c25 : Int, r4 = .tuple #[.slice c24.base c24.len c24.cap, .int .i64 c25] ∧
        IfB (c25 == (0 : Int)) (HCalls Try.prog fn_slices_Equal_sbytebyte #[.slice p.base p.len p.cap, .slice c24.base c24.len c24.cap] vh13 fun r5 vh14 =>
          ∃ c26 : Bool, r5 = .bool c26 ∧
          IfB (!c26) (stCells (nw h) 0 [.int .i64 (0 : Int), .int .i64 (0 : Int), .int .i64 (0 : Int), .int .i64 (0 : Int), .slice Sl.nil.base Sl.nil.len Sl.nil.cap] vh14 fun vh15 =>
            ∃ x25 : Int, ∃ x26 : Int, ∃ x27 : Int, ∃ x28 : Int, ∃ x29 : Sl, hcell vh15 ((nw h)) = some (.int .i64 x25) ∧ hcell vh15 ((nw h).add 1) = some (.int .i64 x26) ∧ hcell vh15 ((nw h).add 2) = some (.int .i64 x27) ∧ hcell vh15 ((nw h).add 3) = some (.int .i64 x28) ∧ hcell vh15 ((nw h).add 4) = some (.slice x29.base x29.len x29.cap) ∧
            R (.tuple #[.agg #[.int .i64 x25, .int .i64 x26, .int .i64 x27, .int .i64 x28, .slice x29.base x29.len x29.cap], .int .i64 (13 : Int)]) vh15)
          (∃ c27 : Int, ∃ c28 : Int, ∃ c29 : Int, ∃ c30 : Int, ∃ c31 : Sl, hcell vh14 ((nw vh)) = some (.int .i64 c27) ∧ hcell vh14 ((nw vh).add 1) = some (.int .i64 c28) ∧ hcell vh14 ((nw vh).add 2) = some (.int .i64 c29) ∧ hcell vh14 ((nw vh).add 3) = some (.int .i64 c30) ∧ hcell vh14 ((nw vh).add 4) = some (.slice c31.base c31.len c31.cap) ∧
            stCells (nw h) 0 [.int .i64 c27, .int .i64 c28, .int .i64 c29, .int .i64 c30, .slice c31.base c31.len c31.cap] vh14 fun vh16 =>
            ∃ x30 : Int, ∃ x31 : Int, ∃ x32 : Int, ∃ x33 : Int, ∃ x34 : Sl, hcell vh16 ((nw h)) = some (.int .i64 x30) ∧ hcell vh16 ((nw h).add 1) = some (.int .i64 x31) ∧ hcell vh16 ((nw h).add 2) = some (.int .i64 x32) ∧ hcell vh16 ((nw h).add 3) = some (.int .i64 x33) ∧ hcell vh16 ((nw h).add 4) = some (.slice x34.base x34.len x34.cap) ∧
            R (.tuple #[.agg #[.int .i64 x30, .int .i64 x31, .int .i64 x32, .int .i64 x33, .slice x34.base x34.len x34.cap], .int .i64 (0 : Int)]) vh16))
        (IfB (!false) (stCells (nw h) 0 [.int .i64 (0 : Int), .int .i64 (0 : Int), .int .i64 (0 : Int), .int .i64 (0 : Int), .slice Sl.nil.base Sl.nil.len Sl.nil.cap] vh13 fun vh17 =>
            ∃ x35 : Int, ∃ x36 : Int, ∃ x37 : Int, ∃ x38 : Int, ∃ x39 : Sl, hcell vh17 ((nw h)) = some (.int .i64 x35) ∧ hcell vh17 ((nw h).add 1) = some (.int .i64 x36) ∧ hcell vh17 ((nw h).add 2) = some (.int .i64 x37) ∧ hcell vh17 ((nw h).add 3) = some (.int .i64 x38) ∧ hcell vh17 ((nw h).add 4) = some (.slice x39.base x39.len x39.cap) ∧
            R (.tuple #[.agg #[.int .i64 x35, .int .i64 x36, .int .i64 x37, .int .i64 x38, .slice x39.base x39.len x39.cap], .int .i64 (13 : Int)]) vh17)
          (∃ c32 : Int, ∃ c33 : Int, ∃ c34 : Int, ∃ c35 : Int, ∃ c36 : Sl, hcell vh13 ((nw vh)) = some (.int .i64 c32) ∧ hcell vh13 ((nw vh).add 1) = some (.int .i64 c33) ∧ hcell vh13 ((nw vh).add 2) = some (.int .i64 c34) ∧ hcell vh13 ((nw vh).add 3) = some (.int .i64 c35) ∧ hcell vh13 ((nw vh).add 4) = some (.slice c36.base c36.len c36.cap) ∧
            stCells (nw h) 0 [.int .i64 c32, .int .i64 c33, .int .i64 c34, .int .i64 c35, .slice c36.base c36.len c36.cap] vh13 fun vh18 =>
            ∃ x40 : Int, ∃ x41 : Int, ∃ x42 : Int, ∃ x43 : Int, ∃ x44 : Sl, hcell vh18 ((nw h)) = some (.int .i64 x40) ∧ hcell vh18 ((nw h).add 1) = some (.int .i64 x41) ∧ hcell vh18 ((nw h).add 2) = some (.int .i64 x42) ∧ hcell vh18 ((nw h).add 3) = some (.int .i64 x43) ∧ hcell vh18 ((nw h).add 4) = some (.slice x44.base x44.len x44.cap) ∧
            R (.tuple #[.agg #[.int .i64 x40, .int .i64 x41, .int .i64 x42, .int .i64 x43, .slice x44.base x44.len x44.cap], .int .i64 (0 : Int)]) vh18)))))
theorem frame_Decode_vc {p : Sl} {h : Hp} {R : Value → Hp → Prop} (H : vcframe_Decode p h R) : HCalls Try.prog fn_frame_Decode #[.slice p.base p.len p.cap] h R :=
  vc_fn (annOf [(0, [(5, .bool)])] []) Try.func41 [.slice p.base p.len p.cap] (by kernel_rfl) (V := vcframe_Decode p h R) (by kernel_rfl) H

def vcbits_Get64 (b : Sl) (h : Hp) (R : Value → Hp → Prop) : Prop :=
  HCalls Try.prog fn_bits_get #[.slice b.base b.len b.cap, .int .i64 (8 : Int)] h fun r vh =>
  ∃ c : Int, ∃ c1 : Bool, r = .tuple #[.int .u64 c, .bool c1] ∧
  R (.tuple #[.int .u64 c, .bool c1]) vh
theorem bits_Get64_vc {b : Sl} {h : Hp} {R : Value → Hp → Prop} (H : vcbits_Get64 b h R) : HCalls Try.prog fn_bits_Get64 #[.slice b.base b.len b.cap] h R :=
  vc_fn (annOf [] []) Try.func42 [.slice b.base b.len b.cap] (by kernel_rfl) (V := vcbits_Get64 b h R) (by kernel_rfl) H

def vcscarpref6_Get (b : Sl) (n : Int) (h : Hp) (R : Value → Hp → Prop) : Prop :=
  IfB (decide ((b.len : Int) < n)) (R (.tuple #[.int .u64 (0 : Int), .bool false]) h)
  (∃ (vI : Int → Int → Nat → Hp → Prop) (n1 : Nat), vI (0 : Int) (iSub .i64 n (1 : Int)) n1 h ∧
    ∀ _junk : Nat → Value, ∀ v : Int, ∀ i : Int, ∀ (n2 : Nat) (vh : Hp), vI v i n2 vh →
    IfB (decide (i ≥ (0 : Int))) (0 ≤ (8 : Int) ∧
      ∃ a : Addr, b.base = some a ∧ 0 ≤ i ∧ i < (b.len : Int) ∧
      ∃ c : Int, hcell vh (a.add ((i).toNat * 1)) = some (.int .u8 c) ∧
      ∃ n3, n3 < n2 ∧ vI (iOr .u64 (iShl .u64 v (8 : Int)) (iConv .u64 c)) (iSub .i64 i (1 : Int)) n3 vh)
    (R (.tuple #[.int .u64 v, .bool true]) vh))
theorem scarpref6_Get_vc {b : Sl} {n : Int} {h : Hp} {R : Value → Hp → Prop} (H : vcscarpref6_Get b n h R) : HCalls Try.prog fn_scarpref6_Get #[.slice b.base b.len b.cap, .int .i64 n] h R :=
  vc_fn (annOf [(0, [(6, .int .u64), (7, .int .i64)])] []) Try.func43 [.slice b.base b.len b.cap, .int .i64 n] (by kernel_rfl) (V := vcscarpref6_Get b n h R) (by kernel_rfl) H

def vcscarpref6_Encode (b : Int) (b1 : Int) (b2 : Int) (b3 : Int) (b4 : Sl) (h : Hp) (R : Value → Hp → Prop) : Prop :=
  let vh := alc h [.int .i64 b, .int .i64 b1, .int .i64 b2, .int .i64 b3, .slice b4.base b4.len b4.cap] ty_scarpref6_Block;
  ∃ c : Int, hcell vh (nw h) = some (.int .i64 c) ∧
  IfB (decide (c < (1 : Int))) (R (.tuple #[.slice Sl.nil.base Sl.nil.len Sl.nil.cap, .int .i64 (1 : Int)]) vh)
  (∃ c1 : Int, hcell vh (nw h) = some (.int .i64 c1) ∧
    IfB (decide (c1 > (4 : Int))) (R (.tuple #[.slice Sl.nil.base Sl.nil.len Sl.nil.cap, .int .i64 (1 : Int)]) vh)
    (∃ c2 : Int, hcell vh ((nw h).add 1) = some (.int .i64 c2) ∧
      IfB (decide (c2 < (0 : Int))) (R (.tuple #[.slice Sl.nil.base Sl.nil.len Sl.nil.cap, .int .i64 (1 : Int)]) vh)
      (∃ c3 : Int, hcell vh ((nw h).add 1) = some (.int .i64 c3) ∧
        IfB (decide (c3 > (4294967295 : Int))) (R (.tuple #[.slice Sl.nil.base Sl.nil.len Sl.nil.cap, .int .i64 (1 : Int)]) vh)
        (∃ c4 : Int, hcell vh ((nw h).add 2) = some (.int .i64 c4) ∧
          IfB (decide (c4 < (0 : Int))) (R (.tuple #[.slice Sl.nil.base Sl.nil.len Sl.nil.cap, .int .i64 (1 : Int)]) vh)
          (∃ c5 : Int, hcell vh ((nw h).add 2) = some (.int .i64 c5) ∧
            IfB (decide (c5 > (1099511627776 : Int))) (R (.tuple #[.slice Sl.nil.base Sl.nil.len Sl.nil.cap, .int .i64 (1 : Int)]) vh)
            (∃ c6 : Int, hcell vh ((nw h).add 3) = some (.int .i64 c6) ∧
              IfB (decide (c6 < (0 : Int))) (R (.tuple #[.slice Sl.nil.base Sl.nil.len Sl.nil.cap, .int .i64 (1 : Int)]) vh)
              (∃ c7 : Int, hcell vh ((nw h).add 3) = some (.int .i64 c7) ∧
                IfB (decide (c7 > (1048576 : Int))) (R (.tuple #[.slice Sl.nil.base Sl.nil.len Sl.nil.cap, .int .i64 (1 : Int)]) vh)
                (∃ c8 : Sl, hcell vh ((nw h).add 4) = some (.slice c8.base c8.len c8.cap) ∧
                  IfB (decide ((c8.len : Int) > (40 : Int))) (R (.tuple #[.slice Sl.nil.base Sl.nil.len Sl.nil.cap, .int .i64 (3 : Int)]) vh)
                  (∃ c9 : Int, hcell vh (nw h) = some (.int .i64 c9) ∧
                    ∃ c10 : Sl, hcell vh ((nw h).add 4) = some (.slice c10.base c10.len c10.cap) ∧
                    let vh1 := alc vh [.int .u8 (iConv .u8 c9), .int .u8 (iConv .u8 (c10.len : Int))] ty_uint8;
                    ∃ c11 : Int, hcell vh1 ((nw h).add 1) = some (.int .i64 c11) ∧
                    HCalls Try.prog fn_scarpref6_Put #[.int .u64 (iConv .u64 c11), .int .i64 (4 : Int)] vh1 fun r vh2 =>
                    ∃ c12 : Sl, r = .slice c12.base c12.len c12.cap ∧
                    AppC ty_uint8 1 1 #[.int .u8 (0 : Int)] (Sl.mk (some (nw vh)) 2 2) c12 vh2 fun s vh3 =>
                    ∃ c13 : Int, hcell vh3 ((nw h).add 2) = some (.int .i64 c13) ∧
                    HCalls Try.prog fn_scarpref6_Put #[.int .u64 (iConv .u64 c13), .int .i64 (8 : Int)] vh3 fun r1 vh4 =>
                    ∃ c14 : Sl, r1 = .slice c14.base c14.len c14.cap ∧
                    AppC ty_uint8 1 1 #[.int .u8 (0 : Int)] s c14 vh4 fun s1 vh5 =>
                    ∃ c15 : Int, hcell vh5 ((nw h).add 3) = some (.int .i64 c15) ∧
                    HCalls Try.prog fn_scarpref6_Put #[.int .u64 (iConv .u64 c15), .int .i64 (4 : Int)] vh5 fun r2 vh6 =>
                    ∃ c16 : Sl, r2 = .slice c16.base c16.len c16.cap ∧
                    AppC ty_uint8 1 1 #[.int .u8 (0 : Int)] s1 c16 vh6 fun s2 vh7 =>
                    ∃ c17 : Sl, hcell vh7 ((nw h).add 4) = some (.slice c17.base c17.len c17.cap) ∧
                    AppC ty_uint8 1 1 #[.int .u8 (0 : Int)] s2 c17 vh7 fun s3 vh8 =>
                    ∃ (vI : Sl → Nat → Hp → Prop) (n : Nat), vI s3 n vh8 ∧
                    ∀ _junk : Nat → Value, ∀ p : Sl, ∀ (n1 : Nat) (vh9 : Hp), vI p n1 vh9 →
                    IfB (decide ((p.len : Int) < (60 : Int))) (let vh10 := alc vh9 [.int .u8 (0 : Int)] ty_uint8;
                      AppC ty_uint8 1 1 #[.int .u8 (0 : Int)] p (Sl.mk (some (nw vh9)) 1 1) vh10 fun s4 vh11 =>
                      ∃ n2, n2 < n1 ∧ vI s4 n2 vh11)
                    (HCalls Try.prog fn_scarpref6_Crc #[.slice p.base p.len p.cap] vh9 fun r3 vh12 =>
                      ∃ c18 : Int, r3 = .int .u32 c18 ∧
                      HCalls Try.prog fn_scarpref6_Put #[.int .u64 (iConv .u64 c18), .int .i64 (4 : Int)] vh12 fun r4 vh13 =>
                      ∃ c19 : Sl, r4 = .slice c19.base c19.len c19.cap ∧
                      AppC ty_uint8 1 1 #[.int .u8 (0 : Int)] p c19 vh13 fun s5 vh14 =>
                      R (.tuple #[.slice s5.base s5.len s5.cap, .int .i64 (0 : Int)]) vh14))))))))))
theorem scarpref6_Encode_vc {b : Int} {b1 : Int} {b2 : Int} {b3 : Int} {b4 : Sl} {h : Hp} {R : Value → Hp → Prop} (H : vcscarpref6_Encode b b1 b2 b3 b4 h R) : HCalls Try.prog fn_scarpref6_Encode #[.agg #[.int .i64 b, .int .i64 b1, .int .i64 b2, .int .i64 b3, .slice b4.base b4.len b4.cap]] h R :=
  vc_fn (annOf [(0, [(4, .sl)])] []) Try.func44 [.agg #[.int .i64 b, .int .i64 b1, .int .i64 b2, .int .i64 b3, .slice b4.base b4.len b4.cap]] (by kernel_rfl) (V := vcscarpref6_Encode b b1 b2 b3 b4 h R) (by kernel_rfl) H

def vcscarpref6_Put (v : Int) (n : Int) (h : Hp) (R : Value → Hp → Prop) : Prop :=
  ∃ (vI : Sl → Int → Nat → Hp → Prop) (n1 : Nat), vI Sl.nil (0 : Int) n1 h ∧
  ∀ _junk : Nat → Value, ∀ b : Sl, ∀ i : Int, ∀ (n2 : Nat) (vh : Hp), vI b i n2 vh →
  IfB (decide (i < n)) (0 ≤ (iMul .i64 (8 : Int) i) ∧
    let vh1 := alc vh [.int .u8 (iConv .u8 (iShr .u64 v (iMul .i64 (8 : Int) i)))] ty_uint8;
    AppC ty_uint8 1 1 #[.int .u8 (0 : Int)] b (Sl.mk (some (nw vh)) 1 1) vh1 fun s vh2 =>
    ∃ n3, n3 < n2 ∧ vI s (iAdd .i64 i (1 : Int)) n3 vh2)
  (R (.slice b.base b.len b.cap) vh)
theorem scarpref6_Put_vc {v : Int} {n : Int} {h : Hp} {R : Value → Hp → Prop} (H : vcscarpref6_Put v n h R) : HCalls Try.prog fn_scarpref6_Put #[.int .u64 v, .int .i64 n] h R :=
  vc_fn (annOf [(0, [(5, .sl), (6, .int .i64)])] []) Try.func46 [.int .u64 v, .int .i64 n] (by kernel_rfl) (V := vcscarpref6_Put v n h R) (by kernel_rfl) H

def vcscarpalike_Puts (l : Sl) (top : Int) (h : Hp) (R : Value → Hp → Prop) : Prop :=
  let vh := alc h [.int .i64 (l.len : Int)] ty_int;
  HCalls Try.prog fn_scarpalike_Sum #[.int .i64 (0 : Int), .slice (Sl.mk (some (nw h)) 1 1).base (Sl.mk (some (nw h)) 1 1).len (Sl.mk (some (nw h)) 1 1).cap] vh fun r vh1 =>
  ∃ c : Int, r = .int .i64 c ∧
  ∃ (vI : Int → Int → Nat → Hp → Prop) (n : Nat), vI c (0 : Int) n vh1 ∧
  ∀ _junk : Nat → Value, ∀ n3 : Int, ∀ i : Int, ∀ (n1 : Nat) (vh2 : Hp), vI n3 i n1 vh2 →
  IfB (decide (i < (l.len : Int))) (IfB (decide (n3 ≤ top)) (∃ a : Addr, l.base = some a ∧ 0 ≤ i ∧ i < (l.len : Int) ∧
      ∃ c1 : Sl, hcell vh2 ((a.add ((i).toNat * 2)).add 1) = some (.slice c1.base c1.len c1.cap) ∧
      let vh3 := alc vh2 [.int .i64 (c1.len : Int)] ty_int;
      HCalls Try.prog fn_scarpalike_Sum #[.int .i64 n3, .slice (Sl.mk (some (nw vh2)) 1 1).base (Sl.mk (some (nw vh2)) 1 1).len (Sl.mk (some (nw vh2)) 1 1).cap] vh3 fun r1 vh4 =>
      ∃ c2 : Int, r1 = .int .i64 c2 ∧
      ∃ n2, n2 < n1 ∧ vI c2 (iAdd .i64 i (1 : Int)) n2 vh4)
    (R (.int .i64 n3) vh2))
  (R (.int .i64 n3) vh2)
theorem scarpalike_Puts_vc {l : Sl} {top : Int} {h : Hp} {R : Value → Hp → Prop} (H : vcscarpalike_Puts l top h R) : HCalls Try.prog fn_scarpalike_Puts #[.slice l.base l.len l.cap, .int .i64 top] h R :=
  vc_fn (annOf [(0, [(5, .int .i64), (6, .int .i64)])] []) Try.func47 [.slice l.base l.len l.cap, .int .i64 top] (by kernel_rfl) (V := vcscarpalike_Puts l top h R) (by kernel_rfl) H

def vcslices_Grow_sbytebyte (s : Sl) (n : Int) (h : Hp) (R : Value → Hp → Prop) : Prop :=
  IfB (decide (n < (0 : Int))) (False)
  (IfB (decide ((iSub .i64 n (iSub .i64 (s.cap : Int) (s.len : Int))) > (0 : Int))) (0 ≤ (0 : Int) ∧ (0 : Int) ≤ (s.cap : Int) ∧ (s.cap : Int) ≤ (s.cap : Int) ∧ (s.cap : Int) ≤ (s.cap : Int) ∧
      AppZ ty_uint8 1 1 #[.int .u8 (0 : Int)] (cutSl s (0 : Int) (s.cap : Int) (s.cap : Int) 1) (iSub .i64 n (iSub .i64 (s.cap : Int) (s.len : Int))) h fun s1 vh =>
      0 ≤ (0 : Int) ∧ (0 : Int) ≤ (s.len : Int) ∧ (s.len : Int) ≤ (s1.cap : Int) ∧ (s1.cap : Int) ≤ (s1.cap : Int) ∧
      R (.slice (cutSl s1 (0 : Int) (s.len : Int) (s1.cap : Int) 1).base (cutSl s1 (0 : Int) (s.len : Int) (s1.cap : Int) 1).len (cutSl s1 (0 : Int) (s.len : Int) (s1.cap : Int) 1).cap) vh)
    (R (.slice s.base s.len s.cap) h))
theorem slices_Grow_sbytebyte_vc {s : Sl} {n : Int} {h : Hp} {R : Value → Hp → Prop} (H : vcslices_Grow_sbytebyte s n h R) : HCalls Try.prog fn_slices_Grow_sbytebyte #[.slice s.base s.len s.cap, .int .i64 n] h R :=
  vc_fn (annOf [] []) Try.func48 [.slice s.base s.len s.cap, .int .i64 n] (by kernel_rfl) (V := vcslices_Grow_sbytebyte s n h R) (by kernel_rfl) H

def vccrc_New (h : Hp) (R : Value → Hp → Prop) : Prop :=
  let vh := alc h [.int .u32 (0 : Int)] ty_crc_Sum;
  R (.pointer (some (nw h))) vh
theorem crc_New_vc {h : Hp} {R : Value → Hp → Prop} (H : vccrc_New h R) : HCalls Try.prog fn_crc_New #[] h R :=
  vc_fn (annOf [] []) Try.func49 [] (by kernel_rfl) (V := vccrc_New h R) (by kernel_rfl) H

def vccrc_Sum_Add (s : Option Addr) (b : Sl) (h : Hp) (R : Value → Hp → Prop) : Prop :=
  IfB (isNone? s) (R (.pointer none) h)
  (∃ a : Addr, s = some a ∧
    ∃ c : Int, hcell h a = some (.int .u32 c) ∧
    ∃ (vI : Int → Int → Nat → Hp → Prop) (n : Nat), vI (iNot .u32 c) (0 : Int) n h ∧
    ∀ _junk : Nat → Value, ∀ r : Int, ∀ t17 : Int, ∀ (n1 : Nat) (vh : Hp), vI r t17 n1 vh →
    IfB (decide (t17 < (b.len : Int))) (∃ a1 : Addr, b.base = some a1 ∧ 0 ≤ t17 ∧ t17 < (b.len : Int) ∧
      ∃ c1 : Int, hcell vh (a1.add ((t17).toNat * 1)) = some (.int .u8 c1) ∧
      ∃ (vI1 : Int → Int → Nat → Hp → Prop) (n3 : Nat), vI1 (iXor .u32 r (iConv .u32 c1)) (0 : Int) n3 vh ∧
      ∀ _junk : Nat → Value, ∀ r1 : Int, ∀ t25 : Int, ∀ (n4 : Nat) (vh1 : Hp), vI1 r1 t25 n4 vh1 →
      IfB (decide (t25 < (8 : Int))) (0 ≤ (1 : Int) ∧
        ∃ n5, n5 < n4 ∧ vI1 (iXor .u32 (iShr .u32 r1 (1 : Int)) (iAnd .u32 (2197175160 : Int) (iNeg .u32 (iAnd .u32 r1 (1 : Int))))) (iAdd .i64 t25 (1 : Int)) n5 vh1)
      (∃ n2, n2 < n1 ∧ vI r1 (iAdd .i64 t17 (1 : Int)) n2 vh1))
    (∃ a2 : Addr, s = some a2 ∧
      StOk vh a2 ∧
      Lt (hset vh a2 (.int .u32 (iNot .u32 r))) fun vh2 =>
      R (.pointer s) vh2))
theorem crc_Sum_Add_vc {s : Option Addr} {b : Sl} {h : Hp} {R : Value → Hp → Prop} (H : vccrc_Sum_Add s b h R) : HCalls Try.prog fn_crc_Sum_Add #[.pointer s, .slice b.base b.len b.cap] h R :=
  vc_fn (annOf [(0, [(5, .int .u32), (17, .int .i64)]), (1, [(5, .int .u32), (25, .int .i64)])] []) Try.func50 [.pointer s, .slice b.base b.len b.cap] (by kernel_rfl) (V := vccrc_Sum_Add s b h R) (by kernel_rfl) H

def vccrc_Sum_Value (s : Option Addr) (h : Hp) (R : Value → Hp → Prop) : Prop :=
  IfB (isNone? s) (R (.int .u32 (0 : Int)) h)
  (∃ a : Addr, s = some a ∧
    ∃ c : Int, hcell h a = some (.int .u32 c) ∧
    R (.int .u32 c) h)
theorem crc_Sum_Value_vc {s : Option Addr} {h : Hp} {R : Value → Hp → Prop} (H : vccrc_Sum_Value s h R) : HCalls Try.prog fn_crc_Sum_Value #[.pointer s] h R :=
  vc_fn (annOf [] []) Try.func51 [.pointer s] (by kernel_rfl) (V := vccrc_Sum_Value s h R) (by kernel_rfl) H

def vcbits_Get32 (b : Sl) (h : Hp) (R : Value → Hp → Prop) : Prop :=
  HCalls Try.prog fn_bits_get #[.slice b.base b.len b.cap, .int .i64 (4 : Int)] h fun r vh =>
  ∃ c : Int, ∃ c1 : Bool, r = .tuple #[.int .u64 c, .bool c1] ∧
  R (.tuple #[.int .u32 (iConv .u32 c), .bool c1]) vh
theorem bits_Get32_vc {b : Sl} {h : Hp} {R : Value → Hp → Prop} (H : vcbits_Get32 b h R) : HCalls Try.prog fn_bits_Get32 #[.slice b.base b.len b.cap] h R :=
  vc_fn (annOf [] []) Try.func52 [.slice b.base b.len b.cap] (by kernel_rfl) (V := vcbits_Get32 b h R) (by kernel_rfl) H

def vcslices_Clone_sbytebyte (s : Sl) (h : Hp) (R : Value → Hp → Prop) : Prop :=
  IfB (isNone? s.base) (R (.slice Sl.nil.base Sl.nil.len Sl.nil.cap) h)
  (let vh := alc h [] ty_uint8;
    AppC ty_uint8 1 1 #[.int .u8 (0 : Int)] (Sl.mk (some (nw h)) 0 0) s vh fun s1 vh1 =>
    R (.slice s1.base s1.len s1.cap) vh1)
theorem slices_Clone_sbytebyte_vc {s : Sl} {h : Hp} {R : Value → Hp → Prop} (H : vcslices_Clone_sbytebyte s h R) : HCalls Try.prog fn_slices_Clone_sbytebyte #[.slice s.base s.len s.cap] h R :=
  vc_fn (annOf [] []) Try.func53 [.slice s.base s.len s.cap] (by kernel_rfl) (V := vcslices_Clone_sbytebyte s h R) (by kernel_rfl) H

def vcslices_Equal_sbytebyte (s1 : Sl) (s2 : Sl) (h : Hp) (R : Value → Hp → Prop) : Prop :=
  IfB ((s1.len : Int) != (s2.len : Int)) (R (.bool false) h)
  (∃ (vI : Int → Nat → Hp → Prop) (n : Nat), vI (0 : Int) n h ∧
    ∀ _junk : Nat → Value, ∀ t13 : Int, ∀ (n1 : Nat) (vh : Hp), vI t13 n1 vh →
    IfB (decide (t13 < (s1.len : Int))) (∃ a : Addr, s1.base = some a ∧ 0 ≤ t13 ∧ t13 < (s1.len : Int) ∧
      ∃ c : Int, hcell vh (a.add ((t13).toNat * 1)) = some (.int .u8 c) ∧
      ∃ a1 : Addr, s2.base = some a1 ∧ 0 ≤ t13 ∧ t13 < (s2.len : Int) ∧
      ∃ c1 : Int, hcell vh (a1.add ((t13).toNat * 1)) = some (.int .u8 c1) ∧
      IfB (c != c1) (R (.bool false) vh)
      (∃ n2, n2 < n1 ∧ vI (iAdd .i64 t13 (1 : Int)) n2 vh))
    (R (.bool true) vh))
theorem slices_Equal_sbytebyte_vc {s1 : Sl} {s2 : Sl} {h : Hp} {R : Value → Hp → Prop} (H : vcslices_Equal_sbytebyte s1 s2 h R) : HCalls Try.prog fn_slices_Equal_sbytebyte #[.slice s1.base s1.len s1.cap, .slice s2.base s2.len s2.cap] h R :=
  vc_fn (annOf [(0, [(13, .int .i64)])] []) Try.func54 [.slice s1.base s1.len s1.cap, .slice s2.base s2.len s2.cap] (by kernel_rfl) (V := vcslices_Equal_sbytebyte s1 s2 h R) (by kernel_rfl) H

def vcbits_get (b : Sl) (n : Int) (h : Hp) (R : Value → Hp → Prop) : Prop :=
  IfB (decide ((b.len : Int) < n)) (R (.tuple #[.int .u64 (0 : Int), .bool false]) h)
  (∃ (vI : Int → Int → Nat → Hp → Prop) (n1 : Nat), vI (0 : Int) (0 : Int) n1 h ∧
    ∀ _junk : Nat → Value, ∀ v : Int, ∀ t12 : Int, ∀ (n2 : Nat) (vh : Hp), vI v t12 n2 vh →
    IfB (decide (t12 < n)) (∃ a : Addr, b.base = some a ∧ 0 ≤ t12 ∧ t12 < (b.len : Int) ∧
      ∃ c : Int, hcell vh (a.add ((t12).toNat * 1)) = some (.int .u8 c) ∧
      0 ≤ (iMul .i64 (8 : Int) t12) ∧
      ∃ n3, n3 < n2 ∧ vI (iOr .u64 v (iShl .u64 (iConv .u64 c) (iMul .i64 (8 : Int) t12))) (iAdd .i64 t12 (1 : Int)) n3 vh)
    (R (.tuple #[.int .u64 v, .bool true]) vh))
theorem bits_get_vc {b : Sl} {n : Int} {h : Hp} {R : Value → Hp → Prop} (H : vcbits_get b n h R) : HCalls Try.prog fn_bits_get #[.slice b.base b.len b.cap, .int .i64 n] h R :=
  vc_fn (annOf [(0, [(4, .int .u64), (12, .int .i64)])] []) Try.func55 [.slice b.base b.len b.cap, .int .i64 n] (by kernel_rfl) (V := vcbits_get b n h R) (by kernel_rfl) H

def vcscarpref6_Crc (b : Sl) (h : Hp) (R : Value → Hp → Prop) : Prop :=
  ∃ (vI : Int → Int → Nat → Hp → Prop) (n : Nat), vI (4294967295 : Int) (0 : Int) n h ∧
  ∀ _junk : Nat → Value, ∀ r : Int, ∀ i : Int, ∀ (n1 : Nat) (vh : Hp), vI r i n1 vh →
  IfB (decide (i < (b.len : Int))) (∃ a : Addr, b.base = some a ∧ 0 ≤ i ∧ i < (b.len : Int) ∧
    ∃ c : Int, hcell vh (a.add ((i).toNat * 1)) = some (.int .u8 c) ∧
    ∃ (vI1 : Int → Int → Nat → Hp → Prop) (n3 : Nat), vI1 (iXor .u32 r (iConv .u32 c)) (0 : Int) n3 vh ∧
    ∀ _junk : Nat → Value, ∀ r1 : Int, ∀ k : Int, ∀ (n4 : Nat) (vh1 : Hp), vI1 r1 k n4 vh1 →
    IfB (decide (k < (8 : Int))) (IfB ((iAnd .u32 r1 (1 : Int)) == (1 : Int)) (0 ≤ (1 : Int) ∧
        ∃ n5, n5 < n4 ∧ vI1 (iXor .u32 (iShr .u32 r1 (1 : Int)) (2197175160 : Int)) (iAdd .i64 k (1 : Int)) n5 vh1)
      (0 ≤ (1 : Int) ∧
        ∃ n5, n5 < n4 ∧ vI1 (iShr .u32 r1 (1 : Int)) (iAdd .i64 k (1 : Int)) n5 vh1))
    (∃ n2, n2 < n1 ∧ vI r1 (iAdd .i64 i (1 : Int)) n2 vh1))
  (R (.int .u32 (iNot .u32 r)) vh)
theorem scarpref6_Crc_vc {b : Sl} {h : Hp} {R : Value → Hp → Prop} (H : vcscarpref6_Crc b h R) : HCalls Try.prog fn_scarpref6_Crc #[.slice b.base b.len b.cap] h R :=
  vc_fn (annOf [(0, [(3, .int .u32), (4, .int .i64)]), (1, [(3, .int .u32), (5, .int .i64)])] []) Try.func56 [.slice b.base b.len b.cap] (by kernel_rfl) (V := vcscarpref6_Crc b h R) (by kernel_rfl) H

def vcscarpref11_Order (l : Sl) (h : Hp) (R : Value → Hp → Prop) : Prop :=
  ∃ (vI : Int → Int → Nat → Hp → Prop) (n : Nat), vI (0 : Int) (0 : Int) n h ∧
  ∀ _junk : Nat → Value, ∀ last : Int, ∀ i : Int, ∀ (n1 : Nat) (vh : Hp), vI last i n1 vh →
  IfB (decide (i < (l.len : Int))) (∃ a : Addr, l.base = some a ∧ 0 ≤ i ∧ i < (l.len : Int) ∧
    ∃ c : Int, hcell vh (a.add ((i).toNat * 2)) = some (.int .i64 c) ∧
    IfB (decide (c ≤ last)) (R (.bool false) vh)
    (∃ a1 : Addr, l.base = some a1 ∧ 0 ≤ i ∧ i < (l.len : Int) ∧
      ∃ c1 : Int, hcell vh (a1.add ((i).toNat * 2)) = some (.int .i64 c1) ∧
      IfB (decide (c1 > (1099511627776 : Int))) (R (.bool false) vh)
      (∃ a2 : Addr, l.base = some a2 ∧ 0 ≤ i ∧ i < (l.len : Int) ∧
        ∃ c2 : Sl, hcell vh ((a2.add ((i).toNat * 2)).add 1) = some (.slice c2.base c2.len c2.cap) ∧
        IfB ((c2.len : Int) == (0 : Int)) (R (.bool false) vh)
        (∃ a3 : Addr, l.base = some a3 ∧ 0 ≤ i ∧ i < (l.len : Int) ∧
          ∃ c3 : Int, hcell vh (a3.add ((i).toNat * 2)) = some (.int .i64 c3) ∧
          ∃ (vI1 : Int → Nat → Hp → Prop) (n3 : Nat), vI1 (1 : Int) n3 vh ∧
          ∀ _junk : Nat → Value, ∀ k : Int, ∀ (n4 : Nat) (vh1 : Hp), vI1 k n4 vh1 →
          ∃ a4 : Addr, l.base = some a4 ∧ 0 ≤ i ∧ i < (l.len : Int) ∧
          ∃ c4 : Sl, hcell vh1 ((a4.add ((i).toNat * 2)).add 1) = some (.slice c4.base c4.len c4.cap) ∧
          IfB (decide (k < (c4.len : Int))) (∃ a5 : Addr, l.base = some a5 ∧ 0 ≤ i ∧ i < (l.len : Int) ∧
            ∃ c5 : Sl, hcell vh1 ((a5.add ((i).toNat * 2)).add 1) = some (.slice c5.base c5.len c5.cap) ∧
            ∃ a6 : Addr, c5.base = some a6 ∧ 0 ≤ k ∧ k < (c5.len : Int) ∧
            ∃ c6 : Int, hcell vh1 (a6.add ((k).toNat * 2)) = some (.int .i64 c6) ∧
            ∃ a7 : Addr, l.base = some a7 ∧ 0 ≤ i ∧ i < (l.len : Int) ∧
            ∃ c7 : Sl, hcell vh1 ((a7.add ((i).toNat * 2)).add 1) = some (.slice c7.base c7.len c7.cap) ∧
            ∃ a8 : Addr, c7.base = some a8 ∧ 0 ≤ (iSub .i64 k (1 : Int)) ∧ (iSub .i64 k (1 : Int)) < (c7.len : Int) ∧
            ∃ c8 : Int, hcell vh1 (a8.add (((iSub .i64 k (1 : Int))).toNat * 2)) = some (.int .i64 c8) ∧
            IfB (decide (c6 ≤ c8)) (R (.bool false) vh1)
            (∃ n5, n5 < n4 ∧ vI1 (iAdd .i64 k (1 : Int)) n5 vh1))
          (∃ n2, n2 < n1 ∧ vI c3 (iAdd .i64 i (1 : Int)) n2 vh1)))))
  (R (.bool true) vh)
theorem scarpref11_Order_vc {l : Sl} {h : Hp} {R : Value → Hp → Prop} (H : vcscarpref11_Order l h R) : HCalls Try.prog fn_scarpref11_Order #[.slice l.base l.len l.cap] h R :=
  vc_fn (annOf [(0, [(3, .int .i64), (4, .int .i64)]), (1, [(5, .int .i64)])] []) Try.func57 [.slice l.base l.len l.cap] (by kernel_rfl) (V := vcscarpref11_Order l h R) (by kernel_rfl) H

def vcbatch_Encode (b : Int) (b1 : Sl) (epoch : Int) (h : Hp) (R : Value → Hp → Prop) : Prop :=
  let vh := alc h [.int .i64 b, .slice b1.base b1.len b1.cap] ty_api_Batch;
  ∃ c : Int, ∃ c1 : Sl, hcell vh ((nw h)) = some (.int .i64 c) ∧ hcell vh ((nw h).add 1) = some (.slice c1.base c1.len c1.cap) ∧
  HCalls Try.prog fn_batch_Check #[.agg #[.int .i64 c, .slice c1.base c1.len c1.cap]] vh fun r vh1 =>
  ∃ c2 : Int, r = .int .i64 c2 ∧
  IfB (c2 != (0 : Int)) (R (.tuple #[.slice Sl.nil.base Sl.nil.len Sl.nil.cap, .int .i64 (1 : Int)]) vh1)
  (IfB (decide (epoch < (0 : Int))) (R (.tuple #[.slice Sl.nil.base Sl.nil.len Sl.nil.cap, .int .i64 (1 : Int)]) vh1)
    (IfB (decide (epoch > (4294967295 : Int))) (R (.tuple #[.slice Sl.nil.base Sl.nil.len Sl.nil.cap, .int .i64 (1 : Int)]) vh1)
      (∃ c3 : Sl, hcell vh1 ((nw h).add 1) = some (.slice c3.base c3.len c3.cap) ∧
        ∃ a : Addr, c3.base = some a ∧ 0 ≤ (0 : Int) ∧ (0 : Int) < (c3.len : Int) ∧
        ∃ c4 : Int, hcell vh1 (a.add (((0 : Int)).toNat * 2)) = some (.int .i64 c4) ∧
        ∃ vJ : Sl → Hp → Prop,
        (∃ c5 : Sl, hcell vh1 ((nw h).add 1) = some (.slice c5.base c5.len c5.cap) ∧
          (HCalls Try.prog fn_bits_Put64 #[.int .u64 (iConv .u64 c4)] vh1 fun r1 vh2 =>
            ∃ c6 : Sl, r1 = .slice c6.base c6.len c6.cap ∧
            Ext vh1 vh2 ∧
            let vh3 := alc vh2 [.int .u8 (iConv .u8 (c5.len : Int))] ty_uint8;
            Ext vh1 vh3 ∧
            AppC ty_uint8 1 1 #[.int .u8 (0 : Int)] c6 (Sl.mk (some (nw vh2)) 1 1) vh3 fun s vh4 =>
            vJ s vh4) ∧
          (let vh5 := alc vh1 [.int .u8 (iConv .u8 (c5.len : Int))] ty_uint8;
            Ext vh1 vh5 ∧
            HCalls Try.prog fn_bits_Put64 #[.int .u64 (iConv .u64 c4)] vh5 fun r2 vh6 =>
            ∃ c7 : Sl, r2 = .slice c7.base c7.len c7.cap ∧
            Ext vh1 vh6 ∧
            AppC ty_uint8 1 1 #[.int .u8 (0 : Int)] c7 (Sl.mk (some (nw vh1)) 1 1) vh6 fun s1 vh7 =>
            vJ s1 vh7)) ∧
        ∀ _junk : Nat → Value, ∀ body : Sl, ∀ vh8 : Hp, vJ body vh8 →
        ∃ c8 : Sl, hcell vh8 ((nw h).add 1) = some (.slice c8.base c8.len c8.cap) ∧
        ∃ (vI : Sl → Sl → Int → Int → Nat → Hp → Prop) (n : Nat), vI Sl.nil body c4 (0 : Int) n vh8 ∧
        ∀ _junk : Nat → Value, ∀ out : Sl, ∀ body1 : Sl, ∀ last : Int, ∀ t49 : Int, ∀ (n1 : Nat) (vh9 : Hp), vI out body1 last t49 n1 vh9 →
        IfB (decide (t49 < (c8.len : Int))) (∃ a1 : Addr, c8.base = some a1 ∧ 0 ≤ t49 ∧ t49 < (c8.len : Int) ∧
          ∃ c9 : Int, ∃ c10 : Sl, hcell vh9 ((a1.add ((t49).toNat * 2))) = some (.int .i64 c9) ∧ hcell vh9 ((a1.add ((t49).toNat * 2)).add 1) = some (.slice c10.base c10.len c10.cap) ∧
          let vh10 := alc vh9 [.int .i64 (0 : Int), .slice Sl.nil.base Sl.nil.len Sl.nil.cap] ty_api_Tx;
          stCells (nw vh9) 0 [.int .i64 c9, .slice c10.base c10.len c10.cap] vh10 fun vh11 =>
          ∃ c11 : Sl, hcell vh11 ((nw vh9).add 1) = some (.slice c11.base c11.len c11.cap) ∧
          ∃ (vI1 : Sl → Int → Nat → Hp → Prop) (n3 : Nat), vI1 out (0 : Int) n3 vh11 ∧
          ∀ _junk : Nat → Value, ∀ out1 : Sl, ∀ t56 : Int, ∀ (n4 : Nat) (vh12 : Hp), vI1 out1 t56 n4 vh12 →
          IfB (decide (t56 < (c11.len : Int))) (∃ a2 : Addr, c11.base = some a2 ∧ 0 ≤ t56 ∧ t56 < (c11.len : Int) ∧
            ∃ c12 : Int, ∃ c13 : Sl, hcell vh12 ((a2.add ((t56).toNat * 2))) = some (.int .i64 c12) ∧ hcell vh12 ((a2.add ((t56).toNat * 2)).add 1) = some (.slice c13.base c13.len c13.cap) ∧
            let vh13 := alc vh12 [.int .i64 (0 : Int), .slice Sl.nil.base Sl.nil.len Sl.nil.cap] ty_api_Put;
            stCells (nw vh12) 0 [.int .i64 c12, .slice c13.base c13.len c13.cap] vh13 fun vh14 =>
            ∃ c14 : Int, hcell vh14 (nw h) = some (.int .i64 c14) ∧
            ∃ c15 : Int, hcell vh14 (nw vh12) = some (.int .i64 c15) ∧
            ∃ c16 : Sl, hcell vh14 ((nw vh12).add 1) = some (.slice c16.base c16.len c16.cap) ∧
            HCalls Try.prog fn_frame_Encode #[.agg #[.int .i64 (1 : Int), .int .i64 epoch, .int .i64 c14, .int .i64 c15, .slice c16.base c16.len c16.cap]] vh14 fun r3 vh15 =>
            ∃ c17 : Sl, ∃ c18 : Int, r3 = .tuple #[.slice c17.base c17.len c17.cap, .int .i64 c18] ∧
            let vh16 := alc vh15 [.slice c17.base c17.len c17.cap] ty_suint8;
            AppC ty_suint8 1 24 #[.slice Sl.nil.base Sl.nil.len Sl.nil.cap] out1 (Sl.mk (some (nw vh15)) 1 1) vh16 fun s2 vh17 =>
            ∃ n5, n5 < n4 ∧ vI1 s2 (iAdd .i64 t56 (1 : Int)) n5 vh17)
          (∃ c19 : Int, hcell vh12 (nw vh9) = some (.int .i64 c19) ∧
            ∃ c20 : Int, hcell vh12 (nw vh9) = some (.int .i64 c20) ∧
            0 ≤ (8 : Int) ∧
            let vh18 := alc vh12 [.int .u8 (iConv .u8 (iSub .i64 c19 last)), .int .u8 (iConv .u8 (iShr .i64 (iSub .i64 c19 last) (8 : Int)))] ty_uint8;
            AppC ty_uint8 1 1 #[.int .u8 (0 : Int)] body1 (Sl.mk (some (nw vh12)) 2 2) vh18 fun s3 vh19 =>
            ∃ n2, n2 < n1 ∧ vI out1 s3 c20 (iAdd .i64 t49 (1 : Int)) n2 vh19))
        (∃ c21 : Sl, hcell vh9 ((nw h).add 1) = some (.slice c21.base c21.len c21.cap) ∧
          ∃ (vI2 : Sl → Int → Nat → Hp → Prop) (n6 : Nat), vI2 body1 (0 : Int) n6 vh9 ∧
          ∀ _junk : Nat → Value, ∀ body2 : Sl, ∀ t95 : Int, ∀ (n7 : Nat) (vh20 : Hp), vI2 body2 t95 n7 vh20 →
          IfB (decide (t95 < (c21.len : Int))) (∃ a3 : Addr, c21.base = some a3 ∧ 0 ≤ t95 ∧ t95 < (c21.len : Int) ∧
            ∃ c22 : Int, ∃ c23 : Sl, hcell vh20 ((a3.add ((t95).toNat * 2))) = some (.int .i64 c22) ∧ hcell vh20 ((a3.add ((t95).toNat * 2)).add 1) = some (.slice c23.base c23.len c23.cap) ∧
            let vh21 := alc vh20 [.int .i64 (0 : Int), .slice Sl.nil.base Sl.nil.len Sl.nil.cap] ty_api_Tx;
            stCells (nw vh20) 0 [.int .i64 c22, .slice c23.base c23.len c23.cap] vh21 fun vh22 =>
            ∃ c24 : Sl, hcell vh22 ((nw vh20).add 1) = some (.slice c24.base c24.len c24.cap) ∧
            let vh23 := alc vh22 [.int .u8 (iConv .u8 (c24.len : Int))] ty_uint8;
            AppC ty_uint8 1 1 #[.int .u8 (0 : Int)] body2 (Sl.mk (some (nw vh22)) 1 1) vh23 fun s4 vh24 =>
            ∃ n8, n8 < n7 ∧ vI2 s4 (iAdd .i64 t95 (1 : Int)) n8 vh24)
          (∃ c25 : Int, hcell vh20 (nw h) = some (.int .i64 c25) ∧
            HCalls Try.prog fn_frame_Encode #[.agg #[.int .i64 (2 : Int), .int .i64 epoch, .int .i64 c25, .int .i64 (out.len : Int), .slice body2.base body2.len body2.cap]] vh20 fun r4 vh25 =>
            ∃ c26 : Sl, ∃ c27 : Int, r4 = .tuple #[.slice c26.base c26.len c26.cap, .int .i64 c27] ∧
            let vh26 := alc vh25 [.slice c26.base c26.len c26.cap] ty_suint8;
            AppC ty_suint8 1 24 #[.slice Sl.nil.base Sl.nil.len Sl.nil.cap] out (Sl.mk (some (nw vh25)) 1 1) vh26 fun s5 vh27 =>
            R (.tuple #[.slice s5.base s5.len s5.cap, .int .i64 (0 : Int)]) vh27)))))
theorem batch_Encode_vc {b : Int} {b1 : Sl} {epoch : Int} {h : Hp} {R : Value → Hp → Prop} (H : vcbatch_Encode b b1 epoch h R) : HCalls Try.prog fn_batch_Encode #[.agg #[.int .i64 b, .slice b1.base b1.len b1.cap], .int .i64 epoch] h R :=
  vc_fn (annOf [(0, [(4, .sl), (7, .sl), (8, .int .i64), (49, .int .i64)]), (1, [(4, .sl), (56, .int .i64)]), (2, [(7, .sl), (95, .int .i64)])] [(5, [(7, .sl)])]) Try.func10 [.agg #[.int .i64 b, .slice b1.base b1.len b1.cap], .int .i64 epoch] (by kernel_rfl) (V := vcbatch_Encode b b1 epoch h R) (by kernel_rfl) H

def vcbatch_row (l : Sl) (h : Hp) (R : Value → Hp → Prop) : Prop :=
  let vh := alc h [.int .i64 (0 : Int), .int .i64 (0 : Int), .int .i64 (0 : Int), .int .i64 (0 : Int), .slice Sl.nil.base Sl.nil.len Sl.nil.cap] ty_frame_Block;
  let vh1 := alc vh [.int .i64 (0 : Int), .int .i64 (0 : Int), .int .i64 (0 : Int), .int .i64 (0 : Int), .slice Sl.nil.base Sl.nil.len Sl.nil.cap] ty_frame_Block;
  stCells (nw vh) 0 [.int .i64 (0 : Int), .int .i64 (0 : Int), .int .i64 (0 : Int), .int .i64 (0 : Int), .slice Sl.nil.base Sl.nil.len Sl.nil.cap] vh1 fun vh2 =>
  ∃ vJ : Sl → Bool → Hp → Prop,
  (∃ (vI : Sl → Bool → Int → Nat → Hp → Prop) (n : Nat), vI Sl.nil false (0 : Int) n vh2 ∧
    ∀ _junk : Nat → Value, ∀ puts : Sl, ∀ whole : Bool, ∀ t13 : Int, ∀ (n1 : Nat) (vh3 : Hp), vI puts whole t13 n1 vh3 →
    IfB (decide (t13 < (l.len : Int))) (∃ a : Addr, l.base = some a ∧ 0 ≤ t13 ∧ t13 < (l.len : Int) ∧
      ∃ c : Sl, hcell vh3 (a.add ((t13).toNat * 1)) = some (.slice c.base c.len c.cap) ∧
      HCalls Try.prog fn_frame_Decode #[.slice c.base c.len c.cap] vh3 fun r vh4 =>
      ∃ c1 : Int, ∃ c2 : Int, ∃ c3 : Int, ∃ c4 : Int, ∃ c5 : Sl, ∃ c6 : Int, r = .tuple #[.agg #[.int .i64 c1, .int .i64 c2, .int .i64 c3, .int .i64 c4, .slice c5.base c5.len c5.cap], .int .i64 c6] ∧
      let vh5 := alc vh4 [.int .i64 (0 : Int), .int .i64 (0 : Int), .int .i64 (0 : Int), .int .i64 (0 : Int), .slice Sl.nil.base Sl.nil.len Sl.nil.cap] ty_frame_Block;
      stCells (nw vh4) 0 [.int .i64 c1, .int .i64 c2, .int .i64 c3, .int .i64 c4, .slice c5.base c5.len c5.cap] vh5 fun vh6 =>
      ∃ vJ1 : Hp → Prop,
      (IfB (t13 == (0 : Int)) (∃ c7 : Int, ∃ c8 : Int, ∃ c9 : Int, ∃ c10 : Int, ∃ c11 : Sl, hcell vh6 ((nw vh4)) = some (.int .i64 c7) ∧ hcell vh6 ((nw vh4).add 1) = some (.int .i64 c8) ∧ hcell vh6 ((nw vh4).add 2) = some (.int .i64 c9) ∧ hcell vh6 ((nw vh4).add 3) = some (.int .i64 c10) ∧ hcell vh6 ((nw vh4).add 4) = some (.slice c11.base c11.len c11.cap) ∧
          stCells (nw vh) 0 [.int .i64 c7, .int .i64 c8, .int .i64 c9, .int .i64 c10, .slice c11.base c11.len c11.cap] vh6 fun vh7 =>
          vJ1 vh7)
        (vJ1 vh6)) ∧
      ∀ _junk : Nat → Value, ∀ vh8 : Hp, vJ1 vh8 →
      IfB (c6 != (0 : Int)) (stCells (nw h) 0 [.int .i64 (0 : Int), .int .i64 (0 : Int), .int .i64 (0 : Int), .int .i64 (0 : Int), .slice Sl.nil.base Sl.nil.len Sl.nil.cap] vh8 fun vh9 =>
        vJ puts true vh9)
      (∃ c12 : Int, hcell vh8 ((nw vh4).add 1) = some (.int .i64 c12) ∧
        ∃ c13 : Int, hcell vh8 ((nw vh).add 1) = some (.int .i64 c13) ∧
        IfB (c12 != c13) (stCells (nw h) 0 [.int .i64 (0 : Int), .int .i64 (0 : Int), .int .i64 (0 : Int), .int .i64 (0 : Int), .slice Sl.nil.base Sl.nil.len Sl.nil.cap] vh8 fun vh10 =>
          vJ puts true vh10)
        (∃ c14 : Int, hcell vh8 ((nw vh4).add 2) = some (.int .i64 c14) ∧
          ∃ c15 : Int, hcell vh8 ((nw vh).add 2) = some (.int .i64 c15) ∧
          IfB (c14 != c15) (stCells (nw h) 0 [.int .i64 (0 : Int), .int .i64 (0 : Int), .int .i64 (0 : Int), .int .i64 (0 : Int), .slice Sl.nil.base Sl.nil.len Sl.nil.cap] vh8 fun vh11 =>
            vJ puts true vh11)
          (∃ c16 : Int, hcell vh8 (nw vh4) = some (.int .i64 c16) ∧
            IfB (c16 != (1 : Int)) (∃ c17 : Int, ∃ c18 : Int, ∃ c19 : Int, ∃ c20 : Int, ∃ c21 : Sl, hcell vh8 ((nw vh4)) = some (.int .i64 c17) ∧ hcell vh8 ((nw vh4).add 1) = some (.int .i64 c18) ∧ hcell vh8 ((nw vh4).add 2) = some (.int .i64 c19) ∧ hcell vh8 ((nw vh4).add 3) = some (.int .i64 c20) ∧ hcell vh8 ((nw vh4).add 4) = some (.slice c21.base c21.len c21.cap) ∧
              stCells (nw h) 0 [.int .i64 c17, .int .i64 c18, .int .i64 c19, .int .i64 c20, .slice c21.base c21.len c21.cap] vh8 fun vh12 =>
              vJ puts true vh12)
            (∃ c22 : Int, hcell vh8 ((nw vh4).add 3) = some (.int .i64 c22) ∧
              ∃ c23 : Sl, hcell vh8 ((nw vh4).add 4) = some (.slice c23.base c23.len c23.cap) ∧
              let vh13 := alc vh8 [.int .i64 c22, .slice c23.base c23.len c23.cap] ty_api_Put;
              AppC ty_api_Put 2 32 #[.int .i64 (0 : Int), .slice Sl.nil.base Sl.nil.len Sl.nil.cap] puts (Sl.mk (some (nw vh8)) 1 1) vh13 fun s vh14 =>
              ∃ n2, n2 < n1 ∧ vI s whole (iAdd .i64 t13 (1 : Int)) n2 vh14)))))
    (vJ puts whole vh3)) ∧
  ∀ _junk : Nat → Value, ∀ puts1 : Sl, ∀ whole1 : Bool, ∀ vh15 : Hp, vJ puts1 whole1 vh15 →
  ∃ c24 : Int, ∃ c25 : Int, ∃ c26 : Int, ∃ c27 : Int, ∃ c28 : Sl, hcell vh15 ((nw h)) = some (.int .i64 c24) ∧ hcell vh15 ((nw h).add 1) = some (.int .i64 c25) ∧ hcell vh15 ((nw h).add 2) = some (.int .i64 c26) ∧ hcell vh15 ((nw h).add 3) = some (.int .i64 c27) ∧ hcell vh15 ((nw h).add 4) = some (.slice c28.base c28.len c28.cap) ∧
  stCells (nw h) 0 [.int .i64 c24, .int .i64 c25, .int .i64 c26, .int .i64 c27, .slice c28.base c28.len c28.cap] vh15 fun vh16 =>
  Ext vh15 vh16 ∧
  ∃ x : Int, ∃ x1 : Int, ∃ x2 : Int, ∃ x3 : Int, ∃ x4 : Sl, hcell vh16 ((nw h)) = some (.int .i64 x) ∧ hcell vh16 ((nw h).add 1) = some (.int .i64 x1) ∧ hcell vh16 ((nw h).add 2) = some (.int .i64 x2) ∧ hcell vh16 ((nw h).add 3) = some (.int .i64 x3) ∧ hcell vh16 ((nw h).add 4) = some (.slice x4.base x4.len x4.cap) ∧
  R (.tuple #[.slice puts1.base puts1.len puts1.cap, .agg #[.int .i64 x, .int .i64 x1, .int .i64 x2, .int .i64 x3, .slice x4.base x4.len x4.cap], .bool whole1]) vh16
theorem batch_row_vc {l : Sl} {h : Hp} {R : Value → Hp → Prop} (H : vcbatch_row l h R) : HCalls Try.prog fn_batch_row #[.slice l.base l.len l.cap] h R :=
  vc_fn (annOf [(0, [(2, .sl), (4, .bool), (13, .int .i64)])] [(8, []), (14, [(2, .sl), (4, .bool)])]) Try.func28 [.slice l.base l.len l.cap] (by kernel_rfl) (V := vcbatch_row l h R) (by kernel_rfl) H

def vcbatch_batch (c : Int) (c1 : Int) (c2 : Int) (c3 : Int) (c4 : Sl) (puts : Sl) (h : Hp) (R : Value → Hp → Prop) : Prop :=
  let vh := alc h [.int .i64 c, .int .i64 c1, .int .i64 c2, .int .i64 c3, .slice c4.base c4.len c4.cap] ty_frame_Block;
  let vh1 := alc vh [.int .i64 (0 : Int), .slice Sl.nil.base Sl.nil.len Sl.nil.cap] ty_api_Batch;
  ∃ c5 : Int, hcell vh1 (nw h) = some (.int .i64 c5) ∧
  IfB (c5 != (2 : Int)) (∃ c6 : Int, ∃ c7 : Sl, hcell vh1 ((nw vh)) = some (.int .i64 c6) ∧ hcell vh1 ((nw vh).add 1) = some (.slice c7.base c7.len c7.cap) ∧
    stCells (nw vh) 0 [.int .i64 c6, .slice c7.base c7.len c7.cap] vh1 fun vh2 =>
    ∃ x : Int, ∃ x1 : Sl, hcell vh2 ((nw vh)) = some (.int .i64 x) ∧ hcell vh2 ((nw vh).add 1) = some (.slice x1.base x1.len x1.cap) ∧
    R (.tuple #[.agg #[.int .i64 x, .slice x1.base x1.len x1.cap], .bool false]) vh2)
  (∃ c8 : Int, hcell vh1 ((nw h).add 3) = some (.int .i64 c8) ∧
    IfB (c8 != (puts.len : Int)) (∃ c9 : Int, ∃ c10 : Sl, hcell vh1 ((nw vh)) = some (.int .i64 c9) ∧ hcell vh1 ((nw vh).add 1) = some (.slice c10.base c10.len c10.cap) ∧
      stCells (nw vh) 0 [.int .i64 c9, .slice c10.base c10.len c10.cap] vh1 fun vh3 =>
      ∃ x2 : Int, ∃ x3 : Sl, hcell vh3 ((nw vh)) = some (.int .i64 x2) ∧ hcell vh3 ((nw vh).add 1) = some (.slice x3.base x3.len x3.cap) ∧
      R (.tuple #[.agg #[.int .i64 x2, .slice x3.base x3.len x3.cap], .bool false]) vh3)
    (∃ c11 : Sl, hcell vh1 ((nw h).add 4) = some (.slice c11.base c11.len c11.cap) ∧
      IfB (decide ((c11.len : Int) < (9 : Int))) (∃ c12 : Int, ∃ c13 : Sl, hcell vh1 ((nw vh)) = some (.int .i64 c12) ∧ hcell vh1 ((nw vh).add 1) = some (.slice c13.base c13.len c13.cap) ∧
        stCells (nw vh) 0 [.int .i64 c12, .slice c13.base c13.len c13.cap] vh1 fun vh4 =>
        ∃ x4 : Int, ∃ x5 : Sl, hcell vh4 ((nw vh)) = some (.int .i64 x4) ∧ hcell vh4 ((nw vh).add 1) = some (.slice x5.base x5.len x5.cap) ∧
        R (.tuple #[.agg #[.int .i64 x4, .slice x5.base x5.len x5.cap], .bool false]) vh4)
      (∃ c14 : Sl, hcell vh1 ((nw h).add 4) = some (.slice c14.base c14.len c14.cap) ∧
        ∃ a : Addr, c14.base = some a ∧ 0 ≤ (8 : Int) ∧ (8 : Int) < (c14.len : Int) ∧
        ∃ c15 : Int, hcell vh1 (a.add (((8 : Int)).toNat * 1)) = some (.int .u8 c15) ∧
        ∃ c16 : Sl, hcell vh1 ((nw h).add 4) = some (.slice c16.base c16.len c16.cap) ∧
        IfB ((c16.len : Int) != (iAdd .i64 (9 : Int) (iMul .i64 (3 : Int) (iConv .i64 c15)))) (∃ c17 : Int, ∃ c18 : Sl, hcell vh1 ((nw vh)) = some (.int .i64 c17) ∧ hcell vh1 ((nw vh).add 1) = some (.slice c18.base c18.len c18.cap) ∧
          stCells (nw vh) 0 [.int .i64 c17, .slice c18.base c18.len c18.cap] vh1 fun vh5 =>
          ∃ x6 : Int, ∃ x7 : Sl, hcell vh5 ((nw vh)) = some (.int .i64 x6) ∧ hcell vh5 ((nw vh).add 1) = some (.slice x7.base x7.len x7.cap) ∧
          R (.tuple #[.agg #[.int .i64 x6, .slice x7.base x7.len x7.cap], .bool false]) vh5)
        (∃ c19 : Sl, hcell vh1 ((nw h).add 4) = some (.slice c19.base c19.len c19.cap) ∧
          HCalls Try.prog fn_bits_Get64 #[.slice c19.base c19.len c19.cap] vh1 fun r vh6 =>
          ∃ c20 : Int, ∃ c21 : Bool, r = .tuple #[.int .u64 c20, .bool c21] ∧
          ∃ c22 : Sl, hcell vh6 ((nw h).add 4) = some (.slice c22.base c22.len c22.cap) ∧
          0 ≤ (9 : Int) ∧ (9 : Int) ≤ (iAdd .i64 (9 : Int) (iMul .i64 (2 : Int) (iConv .i64 c15))) ∧ (iAdd .i64 (9 : Int) (iMul .i64 (2 : Int) (iConv .i64 c15))) ≤ (c22.cap : Int) ∧ (c22.cap : Int) ≤ (c22.cap : Int) ∧
          ∃ c23 : Sl, hcell vh6 ((nw h).add 4) = some (.slice c23.base c23.len c23.cap) ∧
          0 ≤ (iAdd .i64 (9 : Int) (iMul .i64 (2 : Int) (iConv .i64 c15))) ∧ (iAdd .i64 (9 : Int) (iMul .i64 (2 : Int) (iConv .i64 c15))) ≤ (c23.len : Int) ∧ (c23.len : Int) ≤ (c23.cap : Int) ∧ (c23.cap : Int) ≤ (c23.cap : Int) ∧
          ∃ c24 : Int, hcell vh6 ((nw h).add 2) = some (.int .i64 c24) ∧
          StOk vh6 (nw vh) ∧
          Lt (hset vh6 (nw vh) (.int .i64 c24)) fun vh7 =>
          ∃ (vI : Sl → Int → Int → Nat → Hp → Prop) (n : Nat), vI puts (iConv .i64 (if (4611686018427387904 : Int) < c20 then (4611686018427387904 : Int) else c20)) (0 : Int) n vh7 ∧
          ∀ _junk : Nat → Value, ∀ puts1 : Sl, ∀ time : Int, ∀ t69 : Int, ∀ (n1 : Nat) (vh8 : Hp), vI puts1 time t69 n1 vh8 →
          IfB (decide (t69 < (iConv .i64 c15))) (∃ a1 : Addr, (cutSl c22 (9 : Int) (iAdd .i64 (9 : Int) (iMul .i64 (2 : Int) (iConv .i64 c15))) (c22.cap : Int) 1).base = some a1 ∧ 0 ≤ (iMul .i64 (2 : Int) t69) ∧ (iMul .i64 (2 : Int) t69) < ((cutSl c22 (9 : Int) (iAdd .i64 (9 : Int) (iMul .i64 (2 : Int) (iConv .i64 c15))) (c22.cap : Int) 1).len : Int) ∧
            ∃ c25 : Int, hcell vh8 (a1.add (((iMul .i64 (2 : Int) t69)).toNat * 1)) = some (.int .u8 c25) ∧
            ∃ a2 : Addr, (cutSl c22 (9 : Int) (iAdd .i64 (9 : Int) (iMul .i64 (2 : Int) (iConv .i64 c15))) (c22.cap : Int) 1).base = some a2 ∧ 0 ≤ (iAdd .i64 (iMul .i64 (2 : Int) t69) (1 : Int)) ∧ (iAdd .i64 (iMul .i64 (2 : Int) t69) (1 : Int)) < ((cutSl c22 (9 : Int) (iAdd .i64 (9 : Int) (iMul .i64 (2 : Int) (iConv .i64 c15))) (c22.cap : Int) 1).len : Int) ∧
            ∃ c26 : Int, hcell vh8 (a2.add (((iAdd .i64 (iMul .i64 (2 : Int) t69) (1 : Int))).toNat * 1)) = some (.int .u8 c26) ∧
            0 ≤ (8 : Int) ∧
            ∃ a3 : Addr, (cutSl c23 (iAdd .i64 (9 : Int) (iMul .i64 (2 : Int) (iConv .i64 c15))) (c23.len : Int) (c23.cap : Int) 1).base = some a3 ∧ 0 ≤ t69 ∧ t69 < ((cutSl c23 (iAdd .i64 (9 : Int) (iMul .i64 (2 : Int) (iConv .i64 c15))) (c23.len : Int) (c23.cap : Int) 1).len : Int) ∧
            ∃ c27 : Int, hcell vh8 (a3.add ((t69).toNat * 1)) = some (.int .u8 c27) ∧
            ∃ vJ : Hp → Prop,
            (IfB (decide ((iConv .i64 c27) > (puts1.len : Int))) (∃ c28 : Int, ∃ c29 : Sl, hcell vh8 ((nw vh)) = some (.int .i64 c28) ∧ hcell vh8 ((nw vh).add 1) = some (.slice c29.base c29.len c29.cap) ∧
                stCells (nw vh) 0 [.int .i64 c28, .slice c29.base c29.len c29.cap] vh8 fun vh9 =>
                ∃ x8 : Int, ∃ x9 : Sl, hcell vh9 ((nw vh)) = some (.int .i64 x8) ∧ hcell vh9 ((nw vh).add 1) = some (.slice x9.base x9.len x9.cap) ∧
                R (.tuple #[.agg #[.int .i64 x8, .slice x9.base x9.len x9.cap], .bool false]) vh9)
              (IfB (t69 == (0 : Int)) (∃ a4 : Addr, (cutSl c22 (9 : Int) (iAdd .i64 (9 : Int) (iMul .i64 (2 : Int) (iConv .i64 c15))) (c22.cap : Int) 1).base = some a4 ∧ 0 ≤ (0 : Int) ∧ (0 : Int) < ((cutSl c22 (9 : Int) (iAdd .i64 (9 : Int) (iMul .i64 (2 : Int) (iConv .i64 c15))) (c22.cap : Int) 1).len : Int) ∧
                  ∃ c30 : Int, hcell vh8 (a4.add (((0 : Int)).toNat * 1)) = some (.int .u8 c30) ∧
                  ∃ a5 : Addr, (cutSl c22 (9 : Int) (iAdd .i64 (9 : Int) (iMul .i64 (2 : Int) (iConv .i64 c15))) (c22.cap : Int) 1).base = some a5 ∧ 0 ≤ (1 : Int) ∧ (1 : Int) < ((cutSl c22 (9 : Int) (iAdd .i64 (9 : Int) (iMul .i64 (2 : Int) (iConv .i64 c15))) (c22.cap : Int) 1).len : Int) ∧
                  ∃ c31 : Int, hcell vh8 (a5.add (((1 : Int)).toNat * 1)) = some (.int .u8 c31) ∧
                  IfB ((iOr .u8 c30 c31) != (0 : Int)) (∃ c32 : Int, ∃ c33 : Sl, hcell vh8 ((nw vh)) = some (.int .i64 c32) ∧ hcell vh8 ((nw vh).add 1) = some (.slice c33.base c33.len c33.cap) ∧
                    stCells (nw vh) 0 [.int .i64 c32, .slice c33.base c33.len c33.cap] vh8 fun vh10 =>
                    ∃ x10 : Int, ∃ x11 : Sl, hcell vh10 ((nw vh)) = some (.int .i64 x10) ∧ hcell vh10 ((nw vh).add 1) = some (.slice x11.base x11.len x11.cap) ∧
                    R (.tuple #[.agg #[.int .i64 x10, .slice x11.base x11.len x11.cap], .bool false]) vh10)
                  (vJ vh8))
                (vJ vh8))) ∧
            ∀ _junk : Nat → Value, ∀ vh11 : Hp, vJ vh11 →
            ∃ c34 : Sl, hcell vh11 ((nw vh).add 1) = some (.slice c34.base c34.len c34.cap) ∧
            0 ≤ (0 : Int) ∧ (0 : Int) ≤ (iConv .i64 c27) ∧ (iConv .i64 c27) ≤ (iConv .i64 c27) ∧ (iConv .i64 c27) ≤ (puts1.cap : Int) ∧
            let vh12 := alc vh11 [.int .i64 (iAdd .i64 time (iOr .i64 (iConv .i64 c25) (iShl .i64 (iConv .i64 c26) (8 : Int)))), .slice (cutSl puts1 (0 : Int) (iConv .i64 c27) (iConv .i64 c27) 2).base (cutSl puts1 (0 : Int) (iConv .i64 c27) (iConv .i64 c27) 2).len (cutSl puts1 (0 : Int) (iConv .i64 c27) (iConv .i64 c27) 2).cap] ty_api_Tx;
            Ext vh11 vh12 ∧
            AppC ty_api_Tx 2 32 #[.int .i64 (0 : Int), .slice Sl.nil.base Sl.nil.len Sl.nil.cap] c34 (Sl.mk (some (nw vh11)) 1 1) vh12 fun s vh13 =>
            StOk vh13 ((nw vh).add 1) ∧
            Lt (hset vh13 ((nw vh).add 1) (.slice s.base s.len s.cap)) fun vh14 =>
            0 ≤ (iConv .i64 c27) ∧ (iConv .i64 c27) ≤ (puts1.len : Int) ∧ (puts1.len : Int) ≤ (puts1.cap : Int) ∧ (puts1.cap : Int) ≤ (puts1.cap : Int) ∧
            ∃ n2, n2 < n1 ∧ vI (cutSl puts1 (iConv .i64 c27) (puts1.len : Int) (puts1.cap : Int) 2) (iAdd .i64 time (iOr .i64 (iConv .i64 c25) (iShl .i64 (iConv .i64 c26) (8 : Int)))) (iAdd .i64 t69 (1 : Int)) n2 vh14)
          (∃ c35 : Int, ∃ c36 : Sl, hcell vh8 ((nw vh)) = some (.int .i64 c35) ∧ hcell vh8 ((nw vh).add 1) = some (.slice c36.base c36.len c36.cap) ∧
            IfB ((puts1.len : Int) == (0 : Int)) (∃ c37 : Int, ∃ c38 : Sl, hcell vh8 ((nw vh)) = some (.int .i64 c37) ∧ hcell vh8 ((nw vh).add 1) = some (.slice c38.base c38.len c38.cap) ∧
              HCalls Try.prog fn_batch_Check #[.agg #[.int .i64 c37, .slice c38.base c38.len c38.cap]] vh8 fun r1 vh15 =>
              ∃ c39 : Int, r1 = .int .i64 c39 ∧
              Ext vh8 vh15 ∧
              stCells (nw vh) 0 [.int .i64 c35, .slice c36.base c36.len c36.cap] vh15 fun vh16 =>
              Ext vh8 vh16 ∧
              ∃ x12 : Int, ∃ x13 : Sl, hcell vh16 ((nw vh)) = some (.int .i64 x12) ∧ hcell vh16 ((nw vh).add 1) = some (.slice x13.base x13.len x13.cap) ∧
              R (.tuple #[.agg #[.int .i64 x12, .slice x13.base x13.len x13.cap], .bool (c39 == (0 : Int))]) vh16)
            (stCells (nw vh) 0 [.int .i64 c35, .slice c36.base c36.len c36.cap] vh8 fun vh17 =>
              Ext vh8 vh17 ∧
              ∃ x14 : Int, ∃ x15 : Sl, hcell vh17 ((nw vh)) = some (.int .i64 x14) ∧ hcell vh17 ((nw vh).add 1) = some (.slice x15.base x15.len x15.cap) ∧
              R (.tuple #[.agg #[.int .i64 x14, .slice x15.base x15.len x15.cap], .bool false]) vh17))))))
theorem batch_batch_vc {c : Int} {c1 : Int} {c2 : Int} {c3 : Int} {c4 : Sl} {puts : Sl} {h : Hp} {R : Value → Hp → Prop} (H : vcbatch_batch c c1 c2 c3 c4 puts h R) : HCalls Try.prog fn_batch_batch #[.agg #[.int .i64 c, .int .i64 c1, .int .i64 c2, .int .i64 c3, .slice c4.base c4.len c4.cap], .slice puts.base puts.len puts.cap] h R :=
  vc_fn (annOf [(0, [(1, .sl), (11, .int .i64), (69, .int .i64)])] [(17, [])]) Try.func29 [.agg #[.int .i64 c, .int .i64 c1, .int .i64 c2, .int .i64 c3, .slice c4.base c4.len c4.cap], .slice puts.base puts.len puts.cap] (by kernel_rfl) (V := vcbatch_batch c c1 c2 c3 c4 puts h R) (by kernel_rfl) H

def vcscarplaw17_BatchLimits (n : Int) (puts : Int) (gap : Int) (h : Hp) (R : Value → Hp → Prop) : Prop :=
  IfB (decide (n < (0 : Int))) (HCalls Try.prog fn_scarplaw17_awake #[] h fun r vh =>
    ∃ c : Bool, r = .bool c ∧
    R (.bool c) vh)
  (IfB (decide (n > (12 : Int))) (HCalls Try.prog fn_scarplaw17_awake #[] h fun r1 vh1 =>
      ∃ c1 : Bool, r1 = .bool c1 ∧
      R (.bool c1) vh1)
    (IfB (decide (puts < (0 : Int))) (HCalls Try.prog fn_scarplaw17_awake #[] h fun r2 vh2 =>
        ∃ c2 : Bool, r2 = .bool c2 ∧
        R (.bool c2) vh2)
      (IfB (decide (puts > (20 : Int))) (HCalls Try.prog fn_scarplaw17_awake #[] h fun r3 vh3 =>
          ∃ c3 : Bool, r3 = .bool c3 ∧
          R (.bool c3) vh3)
        (IfB (decide (gap < (0 : Int))) (HCalls Try.prog fn_scarplaw17_awake #[] h fun r4 vh4 =>
            ∃ c4 : Bool, r4 = .bool c4 ∧
            R (.bool c4) vh4)
          (IfB (decide (gap > (70000 : Int))) (HCalls Try.prog fn_scarplaw17_awake #[] h fun r5 vh5 =>
              ∃ c5 : Bool, r5 = .bool c5 ∧
              R (.bool c5) vh5)
            (let vh6 := alc h [.int .i64 (0 : Int), .slice Sl.nil.base Sl.nil.len Sl.nil.cap] ty_api_Batch;
              stCells (nw h) 0 [.int .i64 (1 : Int), .slice Sl.nil.base Sl.nil.len Sl.nil.cap] vh6 fun vh7 =>
              ∃ (vI : Int → Nat → Hp → Prop) (n1 : Nat), vI (0 : Int) n1 vh7 ∧
              ∀ _junk : Nat → Value, ∀ i : Int, ∀ (n2 : Nat) (vh8 : Hp), vI i n2 vh8 →
              IfB (decide (i < n)) (let vh9 := alc vh8 [.int .i64 (0 : Int), .slice Sl.nil.base Sl.nil.len Sl.nil.cap] ty_api_Tx;
                stCells (nw vh8) 0 [.int .i64 (iAdd .i64 (1 : Int) (iMul .i64 i gap)), .slice Sl.nil.base Sl.nil.len Sl.nil.cap] vh9 fun vh10 =>
                ∃ (vI1 : Int → Nat → Hp → Prop) (n4 : Nat), vI1 (0 : Int) n4 vh10 ∧
                ∀ _junk : Nat → Value, ∀ k : Int, ∀ (n5 : Nat) (vh11 : Hp), vI1 k n5 vh11 →
                IfB (decide (k < puts)) (∃ c6 : Sl, hcell vh11 ((nw vh8).add 1) = some (.slice c6.base c6.len c6.cap) ∧
                  HCalls Try.prog fn_scarpalike_Data #[.int .i64 k] vh11 fun r6 vh12 =>
                  ∃ c7 : Sl, r6 = .slice c7.base c7.len c7.cap ∧
                  Ext vh11 vh12 ∧
                  let vh13 := alc vh12 [.int .i64 k, .slice c7.base c7.len c7.cap] ty_api_Put;
                  Ext vh11 vh13 ∧
                  AppC ty_api_Put 2 32 #[.int .i64 (0 : Int), .slice Sl.nil.base Sl.nil.len Sl.nil.cap] c6 (Sl.mk (some (nw vh12)) 1 1) vh13 fun s vh14 =>
                  StOk vh14 ((nw vh8).add 1) ∧
                  Lt (hset vh14 ((nw vh8).add 1) (.slice s.base s.len s.cap)) fun vh15 =>
                  ∃ n6, n6 < n5 ∧ vI1 (iAdd .i64 k (1 : Int)) n6 vh15)
                (∃ c8 : Sl, hcell vh11 ((nw h).add 1) = some (.slice c8.base c8.len c8.cap) ∧
                  ∃ c9 : Int, ∃ c10 : Sl, hcell vh11 ((nw vh8)) = some (.int .i64 c9) ∧ hcell vh11 ((nw vh8).add 1) = some (.slice c10.base c10.len c10.cap) ∧
                  let vh16 := alc vh11 [.int .i64 c9, .slice c10.base c10.len c10.cap] ty_api_Tx;
                  AppC ty_api_Tx 2 32 #[.int .i64 (0 : Int), .slice Sl.nil.base Sl.nil.len Sl.nil.cap] c8 (Sl.mk (some (nw vh11)) 1 1) vh16 fun s1 vh17 =>
                  StOk vh17 ((nw h).add 1) ∧
                  Lt (hset vh17 ((nw h).add 1) (.slice s1.base s1.len s1.cap)) fun vh18 =>
                  ∃ n3, n3 < n2 ∧ vI (iAdd .i64 i (1 : Int)) n3 vh18))
              (∃ vJ : Bool → Hp → Prop,
                (IfB (decide (n ≥ (1 : Int))) (IfB (decide (n ≤ (8 : Int))) (IfB (decide (puts ≥ (1 : Int))) (IfB (decide (puts ≤ (16 : Int))) (IfB (decide ((iMul .i64 n puts) ≤ (32 : Int))) (IfB (n == (1 : Int)) (vJ true vh8)
                            (IfB (decide (gap ≥ (1 : Int))) (vJ (decide (gap ≤ (65535 : Int))) vh8)
                              (vJ false vh8)))
                          (vJ false vh8))
                        (vJ false vh8))
                      (vJ false vh8))
                    (vJ false vh8))
                  (vJ false vh8)) ∧
                ∀ _junk : Nat → Value, ∀ ok : Bool, ∀ vh19 : Hp, vJ ok vh19 →
                ∃ c11 : Int, ∃ c12 : Sl, hcell vh19 ((nw h)) = some (.int .i64 c11) ∧ hcell vh19 ((nw h).add 1) = some (.slice c12.base c12.len c12.cap) ∧
                HCalls Try.prog fn_batch_Encode #[.agg #[.int .i64 c11, .slice c12.base c12.len c12.cap], .int .i64 (0 : Int)] vh19 fun r7 vh20 =>
                ∃ c13 : Sl, ∃ c14 : Int, r7 = .tuple #[.slice c13.base c13.len c13.cap, .int .i64 c14] ∧
                ∃ c15 : Int, ∃ c16 : Sl, hcell vh20 ((nw h)) = some (.int .i64 c15) ∧ hcell vh20 ((nw h).add 1) = some (.slice c16.base c16.len c16.cap) ∧
                HCalls Try.prog fn_batch_Check #[.agg #[.int .i64 c15, .slice c16.base c16.len c16.cap]] vh20 fun r8 vh21 =>
                ∃ c17 : Int, r8 = .int .i64 c17 ∧
                IfB ((c17 == (0 : Int)) == ok) (IfB ((c14 == (0 : Int)) == ok) (IfB (((c13.len : Int) == (iAdd .i64 (iMul .i64 n puts) (1 : Int))) == ok) (HCalls Try.prog fn_scarplaw17_awake #[] vh21 fun r9 vh22 =>
                      ∃ c18 : Bool, r9 = .bool c18 ∧
                      R (.bool c18) vh22)
                    (R (.bool false) vh21))
                  (R (.bool false) vh21))
                (R (.bool false) vh21))))))))
theorem scarplaw17_BatchLimits_vc {n : Int} {puts : Int} {gap : Int} {h : Hp} {R : Value → Hp → Prop} (H : vcscarplaw17_BatchLimits n puts gap h R) : HCalls Try.prog fn_scarplaw17_BatchLimits #[.int .i64 n, .int .i64 puts, .int .i64 gap] h R :=
  vc_fn (annOf [(0, [(8, .int .i64)]), (1, [(10, .int .i64)])] [(14, [(11, .bool)])]) Try.func3 [.int .i64 n, .int .i64 puts, .int .i64 gap] (by kernel_rfl) (V := vcscarplaw17_BatchLimits n puts gap h R) (by kernel_rfl) H

def vcscarplaw17_BatchRow (l : Sl) (cut : Int) (h : Hp) (R : Value → Hp → Prop) : Prop :=
  IfB (decide ((l.len : Int) > (8 : Int))) (HCalls Try.prog fn_scarplaw17_awake #[] h fun r vh =>
    ∃ c : Bool, r = .bool c ∧
    R (.bool c) vh)
  (let vh1 := alc h [.int .i64 (0 : Int)] ty_int;
    ∃ (vI : Sl → Sl → Int → Nat → Hp → Prop) (n : Nat), vI Sl.nil (Sl.mk (some (nw h)) 1 1) (0 : Int) n vh1 ∧
    ∀ _junk : Nat → Value, ∀ all : Sl, ∀ ends : Sl, ∀ i : Int, ∀ (n1 : Nat) (vh2 : Hp), vI all ends i n1 vh2 →
    IfB (decide (i < (l.len : Int))) (∃ a : Addr, l.base = some a ∧ 0 ≤ i ∧ i < (l.len : Int) ∧
      ∃ c1 : Sl, hcell vh2 ((a.add ((i).toNat * 2)).add 1) = some (.slice c1.base c1.len c1.cap) ∧
      HCalls Try.prog fn_scarplaw17_small #[.slice c1.base c1.len c1.cap] vh2 fun r1 vh3 =>
      ∃ c2 : Bool, r1 = .bool c2 ∧
      IfB (!c2) (HCalls Try.prog fn_scarplaw17_awake #[] vh3 fun r2 vh4 =>
        ∃ c3 : Bool, r2 = .bool c3 ∧
        R (.bool c3) vh4)
      (∃ a1 : Addr, l.base = some a1 ∧ 0 ≤ i ∧ i < (l.len : Int) ∧
        ∃ c4 : Int, ∃ c5 : Sl, hcell vh3 ((a1.add ((i).toNat * 2))) = some (.int .i64 c4) ∧ hcell vh3 ((a1.add ((i).toNat * 2)).add 1) = some (.slice c5.base c5.len c5.cap) ∧
        HCalls Try.prog fn_batch_Encode #[.agg #[.int .i64 c4, .slice c5.base c5.len c5.cap], .int .i64 (1 : Int)] vh3 fun r3 vh5 =>
        ∃ c6 : Sl, ∃ c7 : Int, r3 = .tuple #[.slice c6.base c6.len c6.cap, .int .i64 c7] ∧
        IfB (c7 != (0 : Int)) (HCalls Try.prog fn_scarplaw17_awake #[] vh5 fun r4 vh6 =>
          ∃ c8 : Bool, r4 = .bool c8 ∧
          R (.bool c8) vh6)
        (AppC ty_suint8 1 24 #[.slice Sl.nil.base Sl.nil.len Sl.nil.cap] all c6 vh5 fun s vh7 =>
          let vh8 := alc vh7 [.int .i64 (s.len : Int)] ty_int;
          AppC ty_int 1 8 #[.int .i64 (0 : Int)] ends (Sl.mk (some (nw vh7)) 1 1) vh8 fun s1 vh9 =>
          ∃ n2, n2 < n1 ∧ vI s s1 (iAdd .i64 i (1 : Int)) n2 vh9)))
    (HCalls Try.prog fn_scarpalike_Round #[.int .i64 cut, .int .i64 (iAdd .i64 (all.len : Int) (1 : Int))] vh2 fun r5 vh10 =>
      ∃ c9 : Int, r5 = .int .i64 c9 ∧
      0 ≤ (0 : Int) ∧ (0 : Int) ≤ c9 ∧ c9 ≤ (all.cap : Int) ∧ (all.cap : Int) ≤ (all.cap : Int) ∧
      ∃ vJ : Sl → Int → Hp → Prop,
      (∃ (vI1 : Sl → Int → Nat → Hp → Prop) (n3 : Nat), vI1 (cutSl all (0 : Int) c9 (all.cap : Int) 1) (0 : Int) n3 vh10 ∧
        ∀ _junk : Nat → Value, ∀ rest : Sl, ∀ n6 : Int, ∀ (n4 : Nat) (vh11 : Hp), vI1 rest n6 n4 vh11 →
        IfB (decide ((rest.len : Int) > (0 : Int))) (HCalls Try.prog fn_batch_Decode #[.slice rest.base rest.len rest.cap] vh11 fun r6 vh12 =>
          ∃ c10 : Int, ∃ c11 : Sl, ∃ c12 : Int, ∃ c13 : Int, ∃ c14 : Int, r6 = .tuple #[.agg #[.int .i64 c10, .slice c11.base c11.len c11.cap], .int .i64 c12, .int .i64 c13, .int .i64 c14] ∧
          let vh13 := alc vh12 [.int .i64 (0 : Int), .slice Sl.nil.base Sl.nil.len Sl.nil.cap] ty_api_Batch;
          stCells (nw vh12) 0 [.int .i64 c10, .slice c11.base c11.len c11.cap] vh13 fun vh14 =>
          IfB (c14 == (14 : Int)) (vJ rest n6 vh14)
          (IfB (c14 != (0 : Int)) (R (.bool false) vh14)
            (IfB (decide (n6 ≥ (l.len : Int))) (R (.bool false) vh14)
              (∃ c15 : Int, ∃ c16 : Sl, hcell vh14 ((nw vh12)) = some (.int .i64 c15) ∧ hcell vh14 ((nw vh12).add 1) = some (.slice c16.base c16.len c16.cap) ∧
                ∃ a2 : Addr, l.base = some a2 ∧ 0 ≤ n6 ∧ n6 < (l.len : Int) ∧
                ∃ c17 : Int, ∃ c18 : Sl, hcell vh14 ((a2.add ((n6).toNat * 2))) = some (.int .i64 c17) ∧ hcell vh14 ((a2.add ((n6).toNat * 2)).add 1) = some (.slice c18.base c18.len c18.cap) ∧
                HCalls Try.prog fn_scarpref11_SameBatch #[.agg #[.int .i64 c15, .slice c16.base c16.len c16.cap], .agg #[.int .i64 c17, .slice c18.base c18.len c18.cap]] vh14 fun r7 vh15 =>
                ∃ c19 : Bool, r7 = .bool c19 ∧
                Ext vh14 vh15 ∧
                IfB (!c19) (R (.bool false) vh15)
                (IfB (decide (c13 < (1 : Int))) (R (.bool false) vh15)
                  (IfB (decide (c13 > (rest.len : Int))) (R (.bool false) vh15)
                    (0 ≤ c13 ∧ c13 ≤ (rest.len : Int) ∧ (rest.len : Int) ≤ (rest.cap : Int) ∧ (rest.cap : Int) ≤ (rest.cap : Int) ∧
                      ∃ n5, n5 < n4 ∧ vI1 (cutSl rest c13 (rest.len : Int) (rest.cap : Int) 1) (iAdd .i64 n6 (1 : Int)) n5 vh15)))))))
        (vJ rest n6 vh11)) ∧
      ∀ _junk : Nat → Value, ∀ rest1 : Sl, ∀ n7 : Int, ∀ vh16 : Hp, vJ rest1 n7 vh16 →
      ∃ vJ1 : Int → Hp → Prop,
      (∃ (vI2 : Int → Nat → Hp → Prop) (n8 : Nat), vI2 (0 : Int) n8 vh16 ∧
        ∀ _junk : Nat → Value, ∀ want : Int, ∀ (n9 : Nat) (vh17 : Hp), vI2 want n9 vh17 →
        IfB (decide ((iAdd .i64 want (1 : Int)) < (ends.len : Int))) (∃ a3 : Addr, ends.base = some a3 ∧ 0 ≤ (iAdd .i64 want (1 : Int)) ∧ (iAdd .i64 want (1 : Int)) < (ends.len : Int) ∧
          ∃ c20 : Int, hcell vh17 (a3.add (((iAdd .i64 want (1 : Int))).toNat * 1)) = some (.int .i64 c20) ∧
          IfB (decide (c20 ≤ c9)) (∃ n10, n10 < n9 ∧ vI2 (iAdd .i64 want (1 : Int)) n10 vh17)
          (vJ1 want vh17))
        (vJ1 want vh17)) ∧
      ∀ _junk : Nat → Value, ∀ want1 : Int, ∀ vh18 : Hp, vJ1 want1 vh18 →
      IfB (n7 == want1) (∃ a4 : Addr, ends.base = some a4 ∧ 0 ≤ n7 ∧ n7 < (ends.len : Int) ∧
        ∃ c21 : Int, hcell vh18 (a4.add ((n7).toNat * 1)) = some (.int .i64 c21) ∧
        IfB ((rest1.len : Int) == (iSub .i64 c9 c21)) (HCalls Try.prog fn_scarplaw17_awake #[] vh18 fun r8 vh19 =>
          ∃ c22 : Bool, r8 = .bool c22 ∧
          R (.bool c22) vh19)
        (R (.bool false) vh18))
      (R (.bool false) vh18)))
theorem scarplaw17_BatchRow_vc {l : Sl} {cut : Int} {h : Hp} {R : Value → Hp → Prop} (H : vcscarplaw17_BatchRow l cut h R) : HCalls Try.prog fn_scarplaw17_BatchRow #[.slice l.base l.len l.cap, .int .i64 cut] h R :=
  vc_fn (annOf [(0, [(5, .sl), (6, .sl), (7, .int .i64)]), (1, [(10, .sl), (11, .int .i64)]), (2, [(16, .int .i64)])] [(25, [(10, .sl), (11, .int .i64)]), (28, [(16, .int .i64)])]) Try.func7 [.slice l.base l.len l.cap, .int .i64 cut] (by kernel_rfl) (V := vcscarplaw17_BatchRow l cut h R) (by kernel_rfl) H

def vcscarpref11_CheckBatch (b : Int) (b1 : Sl) (h : Hp) (R : Value → Hp → Prop) : Prop :=
  let vh := alc h [.int .i64 b, .slice b1.base b1.len b1.cap] ty_api_Batch;
  ∃ c : Int, hcell vh (nw h) = some (.int .i64 c) ∧
  IfB (decide (c < (1 : Int))) (R (.int .i64 (1 : Int)) vh)
  (∃ c1 : Int, hcell vh (nw h) = some (.int .i64 c1) ∧
    IfB (decide (c1 > (1099511627776 : Int))) (R (.int .i64 (1 : Int)) vh)
    (∃ c2 : Sl, hcell vh ((nw h).add 1) = some (.slice c2.base c2.len c2.cap) ∧
      IfB ((c2.len : Int) == (0 : Int)) (R (.int .i64 (1 : Int)) vh)
      (∃ c3 : Sl, hcell vh ((nw h).add 1) = some (.slice c3.base c3.len c3.cap) ∧
        IfB (decide ((c3.len : Int) > (8 : Int))) (R (.int .i64 (1 : Int)) vh)
        (∃ c4 : Sl, hcell vh ((nw h).add 1) = some (.slice c4.base c4.len c4.cap) ∧
          HCalls Try.prog fn_scarpref11_Order #[.slice c4.base c4.len c4.cap] vh fun r vh1 =>
          ∃ c5 : Bool, r = .bool c5 ∧
          IfB (!c5) (R (.int .i64 (1 : Int)) vh1)
          (∃ (vI : Int → Int → Nat → Hp → Prop) (n : Nat), vI (0 : Int) (0 : Int) n vh1 ∧
            ∀ _junk : Nat → Value, ∀ n3 : Int, ∀ i : Int, ∀ (n1 : Nat) (vh2 : Hp), vI n3 i n1 vh2 →
            ∃ c6 : Sl, hcell vh2 ((nw h).add 1) = some (.slice c6.base c6.len c6.cap) ∧
            IfB (decide (i < (c6.len : Int))) (∃ c7 : Sl, hcell vh2 ((nw h).add 1) = some (.slice c7.base c7.len c7.cap) ∧
              ∃ a : Addr, c7.base = some a ∧ 0 ≤ i ∧ i < (c7.len : Int) ∧
              ∃ c8 : Int, ∃ c9 : Sl, hcell vh2 ((a.add ((i).toNat * 2))) = some (.int .i64 c8) ∧ hcell vh2 ((a.add ((i).toNat * 2)).add 1) = some (.slice c9.base c9.len c9.cap) ∧
              let vh3 := alc vh2 [.int .i64 (0 : Int), .slice Sl.nil.base Sl.nil.len Sl.nil.cap] ty_api_Tx;
              stCells (nw vh2) 0 [.int .i64 c8, .slice c9.base c9.len c9.cap] vh3 fun vh4 =>
              ∃ vJ : Hp → Prop,
              (IfB (decide (i > (0 : Int))) (∃ c10 : Int, hcell vh4 (nw vh2) = some (.int .i64 c10) ∧
                  ∃ c11 : Sl, hcell vh4 ((nw h).add 1) = some (.slice c11.base c11.len c11.cap) ∧
                  ∃ a1 : Addr, c11.base = some a1 ∧ 0 ≤ (iSub .i64 i (1 : Int)) ∧ (iSub .i64 i (1 : Int)) < (c11.len : Int) ∧
                  ∃ c12 : Int, hcell vh4 (a1.add (((iSub .i64 i (1 : Int))).toNat * 2)) = some (.int .i64 c12) ∧
                  IfB (decide ((iSub .i64 c10 c12) > (65535 : Int))) (R (.int .i64 (1 : Int)) vh4)
                  (∃ c13 : Sl, hcell vh4 ((nw vh2).add 1) = some (.slice c13.base c13.len c13.cap) ∧
                    IfB (decide ((c13.len : Int) > (16 : Int))) (R (.int .i64 (1 : Int)) vh4)
                    (vJ vh4)))
                (∃ c14 : Sl, hcell vh4 ((nw vh2).add 1) = some (.slice c14.base c14.len c14.cap) ∧
                  IfB (decide ((c14.len : Int) > (16 : Int))) (R (.int .i64 (1 : Int)) vh4)
                  (vJ vh4))) ∧
              ∀ _junk : Nat → Value, ∀ vh5 : Hp, vJ vh5 →
              ∃ c15 : Sl, hcell vh5 ((nw vh2).add 1) = some (.slice c15.base c15.len c15.cap) ∧
              ∃ (vI1 : Int → Nat → Hp → Prop) (n4 : Nat), vI1 (0 : Int) n4 vh5 ∧
              ∀ _junk : Nat → Value, ∀ k : Int, ∀ (n5 : Nat) (vh6 : Hp), vI1 k n5 vh6 →
              ∃ c16 : Sl, hcell vh6 ((nw vh2).add 1) = some (.slice c16.base c16.len c16.cap) ∧
              IfB (decide (k < (c16.len : Int))) (∃ c17 : Sl, hcell vh6 ((nw vh2).add 1) = some (.slice c17.base c17.len c17.cap) ∧
                ∃ a2 : Addr, c17.base = some a2 ∧ 0 ≤ k ∧ k < (c17.len : Int) ∧
                ∃ c18 : Int, hcell vh6 (a2.add ((k).toNat * 2)) = some (.int .i64 c18) ∧
                IfB (decide (c18 < (0 : Int))) (R (.int .i64 (1 : Int)) vh6)
                (∃ c19 : Sl, hcell vh6 ((nw vh2).add 1) = some (.slice c19.base c19.len c19.cap) ∧
                  ∃ a3 : Addr, c19.base = some a3 ∧ 0 ≤ k ∧ k < (c19.len : Int) ∧
                  ∃ c20 : Int, hcell vh6 (a3.add ((k).toNat * 2)) = some (.int .i64 c20) ∧
                  IfB (decide (c20 > (1048576 : Int))) (R (.int .i64 (1 : Int)) vh6)
                  (∃ c21 : Sl, hcell vh6 ((nw vh2).add 1) = some (.slice c21.base c21.len c21.cap) ∧
                    ∃ a4 : Addr, c21.base = some a4 ∧ 0 ≤ k ∧ k < (c21.len : Int) ∧
                    ∃ c22 : Sl, hcell vh6 ((a4.add ((k).toNat * 2)).add 1) = some (.slice c22.base c22.len c22.cap) ∧
                    IfB ((c22.len : Int) != (40 : Int)) (R (.int .i64 (1 : Int)) vh6)
                    (∃ n6, n6 < n5 ∧ vI1 (iAdd .i64 k (1 : Int)) n6 vh6))))
              (∃ n2, n2 < n1 ∧ vI (iAdd .i64 n3 (c15.len : Int)) (iAdd .i64 i (1 : Int)) n2 vh6))
            (IfB (decide (n3 > (32 : Int))) (R (.int .i64 (1 : Int)) vh2)
              (R (.int .i64 (0 : Int)) vh2)))))))
theorem scarpref11_CheckBatch_vc {b : Int} {b1 : Sl} {h : Hp} {R : Value → Hp → Prop} (H : vcscarpref11_CheckBatch b b1 h R) : HCalls Try.prog fn_scarpref11_CheckBatch #[.agg #[.int .i64 b, .slice b1.base b1.len b1.cap]] h R :=
  vc_fn (annOf [(0, [(3, .int .i64), (4, .int .i64)]), (1, [(6, .int .i64)])] [(10, [])]) Try.func45 [.agg #[.int .i64 b, .slice b1.base b1.len b1.cap]] (by kernel_rfl) (V := vcscarpref11_CheckBatch b b1 h R) (by kernel_rfl) H

def vcscarpref11_EncodeBatch (b : Int) (b1 : Sl) (epoch : Int) (h : Hp) (R : Value → Hp → Prop) : Prop :=
  let vh := alc h [.int .i64 b, .slice b1.base b1.len b1.cap] ty_api_Batch;
  ∃ c : Int, ∃ c1 : Sl, hcell vh ((nw h)) = some (.int .i64 c) ∧ hcell vh ((nw h).add 1) = some (.slice c1.base c1.len c1.cap) ∧
  HCalls Try.prog fn_scarpref11_CheckBatch #[.agg #[.int .i64 c, .slice c1.base c1.len c1.cap]] vh fun r vh1 =>
  ∃ c2 : Int, r = .int .i64 c2 ∧
  IfB (c2 != (0 : Int)) (R (.tuple #[.slice Sl.nil.base Sl.nil.len Sl.nil.cap, .int .i64 (1 : Int)]) vh1)
  (IfB (decide (epoch < (0 : Int))) (R (.tuple #[.slice Sl.nil.base Sl.nil.len Sl.nil.cap, .int .i64 (1 : Int)]) vh1)
    (IfB (decide (epoch > (4294967295 : Int))) (R (.tuple #[.slice Sl.nil.base Sl.nil.len Sl.nil.cap, .int .i64 (1 : Int)]) vh1)
      (∃ c3 : Sl, hcell vh1 ((nw h).add 1) = some (.slice c3.base c3.len c3.cap) ∧
        ∃ a : Addr, c3.base = some a ∧ 0 ≤ (0 : Int) ∧ (0 : Int) < (c3.len : Int) ∧
        ∃ c4 : Int, hcell vh1 (a.add (((0 : Int)).toNat * 2)) = some (.int .i64 c4) ∧
        HCalls Try.prog fn_scarpref6_Put #[.int .u64 (iConv .u64 c4), .int .i64 (8 : Int)] vh1 fun r1 vh2 =>
        ∃ c5 : Sl, r1 = .slice c5.base c5.len c5.cap ∧
        ∃ c6 : Sl, hcell vh2 ((nw h).add 1) = some (.slice c6.base c6.len c6.cap) ∧
        let vh3 := alc vh2 [.int .u8 (iConv .u8 (c6.len : Int))] ty_uint8;
        AppC ty_uint8 1 1 #[.int .u8 (0 : Int)] c5 (Sl.mk (some (nw vh2)) 1 1) vh3 fun s vh4 =>
        ∃ (vI : Sl → Int → Nat → Hp → Prop) (n : Nat), vI s (0 : Int) n vh4 ∧
        ∀ _junk : Nat → Value, ∀ body : Sl, ∀ i : Int, ∀ (n1 : Nat) (vh5 : Hp), vI body i n1 vh5 →
        ∃ c7 : Sl, hcell vh5 ((nw h).add 1) = some (.slice c7.base c7.len c7.cap) ∧
        IfB (decide (i < (c7.len : Int))) (∃ vJ : Int → Hp → Prop,
          (IfB (decide (i > (0 : Int))) (∃ c8 : Sl, hcell vh5 ((nw h).add 1) = some (.slice c8.base c8.len c8.cap) ∧
              ∃ a1 : Addr, c8.base = some a1 ∧ 0 ≤ i ∧ i < (c8.len : Int) ∧
              ∃ c9 : Int, hcell vh5 (a1.add ((i).toNat * 2)) = some (.int .i64 c9) ∧
              ∃ c10 : Sl, hcell vh5 ((nw h).add 1) = some (.slice c10.base c10.len c10.cap) ∧
              ∃ a2 : Addr, c10.base = some a2 ∧ 0 ≤ (iSub .i64 i (1 : Int)) ∧ (iSub .i64 i (1 : Int)) < (c10.len : Int) ∧
              ∃ c11 : Int, hcell vh5 (a2.add (((iSub .i64 i (1 : Int))).toNat * 2)) = some (.int .i64 c11) ∧
              vJ (iSub .i64 c9 c11) vh5)
            (vJ (0 : Int) vh5)) ∧
          ∀ _junk : Nat → Value, ∀ d : Int, ∀ vh6 : Hp, vJ d vh6 →
          HCalls Try.prog fn_scarpref6_Put #[.int .u64 (iConv .u64 d), .int .i64 (2 : Int)] vh6 fun r2 vh7 =>
          ∃ c12 : Sl, r2 = .slice c12.base c12.len c12.cap ∧
          AppC ty_uint8 1 1 #[.int .u8 (0 : Int)] body c12 vh7 fun s1 vh8 =>
          ∃ n2, n2 < n1 ∧ vI s1 (iAdd .i64 i (1 : Int)) n2 vh8)
        (∃ (vI1 : Sl → Sl → Int → Nat → Hp → Prop) (n3 : Nat), vI1 Sl.nil body (0 : Int) n3 vh5 ∧
          ∀ _junk : Nat → Value, ∀ l : Sl, ∀ body1 : Sl, ∀ i1 : Int, ∀ (n4 : Nat) (vh9 : Hp), vI1 l body1 i1 n4 vh9 →
          ∃ c13 : Sl, hcell vh9 ((nw h).add 1) = some (.slice c13.base c13.len c13.cap) ∧
          IfB (decide (i1 < (c13.len : Int))) (∃ c14 : Sl, hcell vh9 ((nw h).add 1) = some (.slice c14.base c14.len c14.cap) ∧
            ∃ a3 : Addr, c14.base = some a3 ∧ 0 ≤ i1 ∧ i1 < (c14.len : Int) ∧
            ∃ c15 : Sl, hcell vh9 ((a3.add ((i1).toNat * 2)).add 1) = some (.slice c15.base c15.len c15.cap) ∧
            let vh10 := alc vh9 [.int .u8 (iConv .u8 (c15.len : Int))] ty_uint8;
            AppC ty_uint8 1 1 #[.int .u8 (0 : Int)] body1 (Sl.mk (some (nw vh9)) 1 1) vh10 fun s2 vh11 =>
            ∃ (vI2 : Sl → Int → Nat → Hp → Prop) (n6 : Nat), vI2 l (0 : Int) n6 vh11 ∧
            ∀ _junk : Nat → Value, ∀ l1 : Sl, ∀ k : Int, ∀ (n7 : Nat) (vh12 : Hp), vI2 l1 k n7 vh12 →
            ∃ c16 : Sl, hcell vh12 ((nw h).add 1) = some (.slice c16.base c16.len c16.cap) ∧
            ∃ a4 : Addr, c16.base = some a4 ∧ 0 ≤ i1 ∧ i1 < (c16.len : Int) ∧
            ∃ c17 : Sl, hcell vh12 ((a4.add ((i1).toNat * 2)).add 1) = some (.slice c17.base c17.len c17.cap) ∧
            IfB (decide (k < (c17.len : Int))) (∃ c18 : Int, hcell vh12 (nw h) = some (.int .i64 c18) ∧
              ∃ c19 : Sl, hcell vh12 ((nw h).add 1) = some (.slice c19.base c19.len c19.cap) ∧
              ∃ a5 : Addr, c19.base = some a5 ∧ 0 ≤ i1 ∧ i1 < (c19.len : Int) ∧
              ∃ c20 : Sl, hcell vh12 ((a5.add ((i1).toNat * 2)).add 1) = some (.slice c20.base c20.len c20.cap) ∧
              ∃ a6 : Addr, c20.base = some a6 ∧ 0 ≤ k ∧ k < (c20.len : Int) ∧
              ∃ c21 : Int, hcell vh12 (a6.add ((k).toNat * 2)) = some (.int .i64 c21) ∧
              ∃ c22 : Sl, hcell vh12 ((nw h).add 1) = some (.slice c22.base c22.len c22.cap) ∧
              ∃ a7 : Addr, c22.base = some a7 ∧ 0 ≤ i1 ∧ i1 < (c22.len : Int) ∧
              ∃ c23 : Sl, hcell vh12 ((a7.add ((i1).toNat * 2)).add 1) = some (.slice c23.base c23.len c23.cap) ∧
              ∃ a8 : Addr, c23.base = some a8 ∧ 0 ≤ k ∧ k < (c23.len : Int) ∧
              ∃ c24 : Sl, hcell vh12 ((a8.add ((k).toNat * 2)).add 1) = some (.slice c24.base c24.len c24.cap) ∧
              HCalls Try.prog fn_scarpref6_Encode #[.agg #[.int .i64 (1 : Int), .int .i64 epoch, .int .i64 c18, .int .i64 c21, .slice c24.base c24.len c24.cap]] vh12 fun r3 vh13 =>
              ∃ c25 : Sl, ∃ c26 : Int, r3 = .tuple #[.slice c25.base c25.len c25.cap, .int .i64 c26] ∧
              Ext vh12 vh13 ∧
              let vh14 := alc vh13 [.slice c25.base c25.len c25.cap] ty_suint8;
              AppC ty_suint8 1 24 #[.slice Sl.nil.base Sl.nil.len Sl.nil.cap] l1 (Sl.mk (some (nw vh13)) 1 1) vh14 fun s3 vh15 =>
              ∃ n8, n8 < n7 ∧ vI2 s3 (iAdd .i64 k (1 : Int)) n8 vh15)
            (∃ n5, n5 < n4 ∧ vI1 l1 s2 (iAdd .i64 i1 (1 : Int)) n5 vh12))
          (∃ c27 : Int, hcell vh9 (nw h) = some (.int .i64 c27) ∧
            HCalls Try.prog fn_scarpref6_Encode #[.agg #[.int .i64 (2 : Int), .int .i64 epoch, .int .i64 c27, .int .i64 (l.len : Int), .slice body1.base body1.len body1.cap]] vh9 fun r4 vh16 =>
            ∃ c28 : Sl, ∃ c29 : Int, r4 = .tuple #[.slice c28.base c28.len c28.cap, .int .i64 c29] ∧
            let vh17 := alc vh16 [.slice c28.base c28.len c28.cap] ty_suint8;
            AppC ty_suint8 1 24 #[.slice Sl.nil.base Sl.nil.len Sl.nil.cap] l (Sl.mk (some (nw vh16)) 1 1) vh17 fun s4 vh18 =>
            R (.tuple #[.slice s4.base s4.len s4.cap, .int .i64 (0 : Int)]) vh18)))))
theorem scarpref11_EncodeBatch_vc {b : Int} {b1 : Sl} {epoch : Int} {h : Hp} {R : Value → Hp → Prop} (H : vcscarpref11_EncodeBatch b b1 epoch h R) : HCalls Try.prog fn_scarpref11_EncodeBatch #[.agg #[.int .i64 b, .slice b1.base b1.len b1.cap], .int .i64 epoch] h R :=
  vc_fn (annOf [(0, [(7, .sl), (8, .int .i64)]), (1, [(6, .sl), (7, .sl), (10, .int .i64)]), (2, [(6, .sl), (11, .int .i64)])] [(12, [(9, .int .i64)])]) Try.func32 [.agg #[.int .i64 b, .slice b1.base b1.len b1.cap], .int .i64 epoch] (by kernel_rfl) (V := vcscarpref11_EncodeBatch b b1 epoch h R) (by kernel_rfl) H

def vcscarpref11_DecodeBatch (l : Sl) (h : Hp) (R : Value → Hp → Prop) : Prop :=
  let vh := alc h [.int .i64 (0 : Int), .slice Sl.nil.base Sl.nil.len Sl.nil.cap] ty_api_Batch;
  ∃ (vI : Sl → Int → Nat → Hp → Prop) (n : Nat), vI Sl.nil (0 : Int) n vh ∧
  ∀ _junk : Nat → Value, ∀ data : Sl, ∀ i : Int, ∀ (n1 : Nat) (vh1 : Hp), vI data i n1 vh1 →
  IfB (decide (i < (l.len : Int))) (∃ a : Addr, l.base = some a ∧ 0 ≤ i ∧ i < (l.len : Int) ∧
    ∃ c : Sl, hcell vh1 (a.add ((i).toNat * 1)) = some (.slice c.base c.len c.cap) ∧
    HCalls Try.prog fn_scarpref6_Decode #[.slice c.base c.len c.cap] vh1 fun r vh2 =>
    ∃ c1 : Int, ∃ c2 : Int, ∃ c3 : Int, ∃ c4 : Int, ∃ c5 : Sl, ∃ c6 : Int, r = .tuple #[.agg #[.int .i64 c1, .int .i64 c2, .int .i64 c3, .int .i64 c4, .slice c5.base c5.len c5.cap], .int .i64 c6] ∧
    let vh3 := alc vh2 [.int .i64 (0 : Int), .int .i64 (0 : Int), .int .i64 (0 : Int), .int .i64 (0 : Int), .slice Sl.nil.base Sl.nil.len Sl.nil.cap] ty_scarpref6_Block;
    stCells (nw vh2) 0 [.int .i64 c1, .int .i64 c2, .int .i64 c3, .int .i64 c4, .slice c5.base c5.len c5.cap] vh3 fun vh4 =>
    ∃ vJ : Hp → Prop,
    (IfB (c6 != (0 : Int)) (stCells (nw h) 0 [.int .i64 (0 : Int), .slice Sl.nil.base Sl.nil.len Sl.nil.cap] vh4 fun vh5 =>
        ∃ x : Int, ∃ x1 : Sl, hcell vh5 ((nw h)) = some (.int .i64 x) ∧ hcell vh5 ((nw h).add 1) = some (.slice x1.base x1.len x1.cap) ∧
        R (.tuple #[.agg #[.int .i64 x, .slice x1.base x1.len x1.cap], .int .i64 (0 : Int), .int .i64 (0 : Int), .int .i64 (13 : Int)]) vh5)
      (∃ c7 : Int, hcell vh4 (nw vh2) = some (.int .i64 c7) ∧
        IfB (c7 != (1 : Int)) (∃ c8 : Int, hcell vh4 (nw vh2) = some (.int .i64 c8) ∧
          IfB (c8 != (2 : Int)) (stCells (nw h) 0 [.int .i64 (0 : Int), .slice Sl.nil.base Sl.nil.len Sl.nil.cap] vh4 fun vh6 =>
            ∃ x2 : Int, ∃ x3 : Sl, hcell vh6 ((nw h)) = some (.int .i64 x2) ∧ hcell vh6 ((nw h).add 1) = some (.slice x3.base x3.len x3.cap) ∧
            R (.tuple #[.agg #[.int .i64 x2, .slice x3.base x3.len x3.cap], .int .i64 (0 : Int), .int .i64 (0 : Int), .int .i64 (13 : Int)]) vh6)
          (IfB (decide (i > (0 : Int))) (∃ c9 : Int, hcell vh4 ((nw vh2).add 1) = some (.int .i64 c9) ∧
              ∃ a1 : Addr, data.base = some a1 ∧ 0 ≤ (0 : Int) ∧ (0 : Int) < (data.len : Int) ∧
              ∃ c10 : Int, hcell vh4 ((a1.add (((0 : Int)).toNat * 5)).add 1) = some (.int .i64 c10) ∧
              IfB (c9 != c10) (stCells (nw h) 0 [.int .i64 (0 : Int), .slice Sl.nil.base Sl.nil.len Sl.nil.cap] vh4 fun vh7 =>
                ∃ x4 : Int, ∃ x5 : Sl, hcell vh7 ((nw h)) = some (.int .i64 x4) ∧ hcell vh7 ((nw h).add 1) = some (.slice x5.base x5.len x5.cap) ∧
                R (.tuple #[.agg #[.int .i64 x4, .slice x5.base x5.len x5.cap], .int .i64 (0 : Int), .int .i64 (0 : Int), .int .i64 (13 : Int)]) vh7)
              (∃ c11 : Int, hcell vh4 ((nw vh2).add 2) = some (.int .i64 c11) ∧
                ∃ a2 : Addr, data.base = some a2 ∧ 0 ≤ (0 : Int) ∧ (0 : Int) < (data.len : Int) ∧
                ∃ c12 : Int, hcell vh4 ((a2.add (((0 : Int)).toNat * 5)).add 2) = some (.int .i64 c12) ∧
                IfB (c11 != c12) (stCells (nw h) 0 [.int .i64 (0 : Int), .slice Sl.nil.base Sl.nil.len Sl.nil.cap] vh4 fun vh8 =>
                  ∃ x6 : Int, ∃ x7 : Sl, hcell vh8 ((nw h)) = some (.int .i64 x6) ∧ hcell vh8 ((nw h).add 1) = some (.slice x7.base x7.len x7.cap) ∧
                  R (.tuple #[.agg #[.int .i64 x6, .slice x7.base x7.len x7.cap], .int .i64 (0 : Int), .int .i64 (0 : Int), .int .i64 (13 : Int)]) vh8)
                (vJ vh4)))
            (vJ vh4)))
        (IfB (decide (i > (0 : Int))) (∃ c13 : Int, hcell vh4 ((nw vh2).add 1) = some (.int .i64 c13) ∧
            ∃ a3 : Addr, data.base = some a3 ∧ 0 ≤ (0 : Int) ∧ (0 : Int) < (data.len : Int) ∧
            ∃ c14 : Int, hcell vh4 ((a3.add (((0 : Int)).toNat * 5)).add 1) = some (.int .i64 c14) ∧
            IfB (c13 != c14) (stCells (nw h) 0 [.int .i64 (0 : Int), .slice Sl.nil.base Sl.nil.len Sl.nil.cap] vh4 fun vh9 =>
              ∃ x8 : Int, ∃ x9 : Sl, hcell vh9 ((nw h)) = some (.int .i64 x8) ∧ hcell vh9 ((nw h).add 1) = some (.slice x9.base x9.len x9.cap) ∧
              R (.tuple #[.agg #[.int .i64 x8, .slice x9.base x9.len x9.cap], .int .i64 (0 : Int), .int .i64 (0 : Int), .int .i64 (13 : Int)]) vh9)
            (∃ c15 : Int, hcell vh4 ((nw vh2).add 2) = some (.int .i64 c15) ∧
              ∃ a4 : Addr, data.base = some a4 ∧ 0 ≤ (0 : Int) ∧ (0 : Int) < (data.len : Int) ∧
              ∃ c16 : Int, hcell vh4 ((a4.add (((0 : Int)).toNat * 5)).add 2) = some (.int .i64 c16) ∧
              IfB (c15 != c16) (stCells (nw h) 0 [.int .i64 (0 : Int), .slice Sl.nil.base Sl.nil.len Sl.nil.cap] vh4 fun vh10 =>
                ∃ x10 : Int, ∃ x11 : Sl, hcell vh10 ((nw h)) = some (.int .i64 x10) ∧ hcell vh10 ((nw h).add 1) = some (.slice x11.base x11.len x11.cap) ∧
                R (.tuple #[.agg #[.int .i64 x10, .slice x11.base x11.len x11.cap], .int .i64 (0 : Int), .int .i64 (0 : Int), .int .i64 (13 : Int)]) vh10)
              (vJ vh4)))
          (vJ vh4)))) ∧
    ∀ _junk : Nat → Value, ∀ vh11 : Hp, vJ vh11 →
    ∃ c17 : Int, hcell vh11 (nw vh2) = some (.int .i64 c17) ∧
    IfB (c17 == (1 : Int)) (∃ c18 : Int, ∃ c19 : Int, ∃ c20 : Int, ∃ c21 : Int, ∃ c22 : Sl, hcell vh11 ((nw vh2)) = some (.int .i64 c18) ∧ hcell vh11 ((nw vh2).add 1) = some (.int .i64 c19) ∧ hcell vh11 ((nw vh2).add 2) = some (.int .i64 c20) ∧ hcell vh11 ((nw vh2).add 3) = some (.int .i64 c21) ∧ hcell vh11 ((nw vh2).add 4) = some (.slice c22.base c22.len c22.cap) ∧
      let vh12 := alc vh11 [.int .i64 c18, .int .i64 c19, .int .i64 c20, .int .i64 c21, .slice c22.base c22.len c22.cap] ty_scarpref6_Block;
      AppC ty_scarpref6_Block 5 56 #[.int .i64 (0 : Int), .int .i64 (0 : Int), .int .i64 (0 : Int), .int .i64 (0 : Int), .slice Sl.nil.base Sl.nil.len Sl.nil.cap] data (Sl.mk (some (nw vh11)) 1 1) vh12 fun s vh13 =>
      ∃ n2, n2 < n1 ∧ vI s (iAdd .i64 i (1 : Int)) n2 vh13)
    (∃ c23 : Int, ∃ c24 : Int, ∃ c25 : Int, ∃ c26 : Int, ∃ c27 : Sl, hcell vh11 ((nw vh2)) = some (.int .i64 c23) ∧ hcell vh11 ((nw vh2).add 1) = some (.int .i64 c24) ∧ hcell vh11 ((nw vh2).add 2) = some (.int .i64 c25) ∧ hcell vh11 ((nw vh2).add 3) = some (.int .i64 c26) ∧ hcell vh11 ((nw vh2).add 4) = some (.slice c27.base c27.len c27.cap) ∧
      HCalls Try.prog fn_scarpref11_made #[.slice data.base data.len data.cap, .agg #[.int .i64 c23, .int .i64 c24, .int .i64 c25, .int .i64 c26, .slice c27.base c27.len c27.cap]] vh11 fun r1 vh14 =>
      ∃ c28 : Int, ∃ c29 : Sl, ∃ c30 : Bool, r1 = .tuple #[.agg #[.int .i64 c28, .slice c29.base c29.len c29.cap], .bool c30] ∧
      let vh15 := alc vh14 [.int .i64 (0 : Int), .slice Sl.nil.base Sl.nil.len Sl.nil.cap] ty_api_Batch;
      stCells (nw vh14) 0 [.int .i64 c28, .slice c29.base c29.len c29.cap] vh15 fun vh16 =>
      IfB (!c30) (stCells (nw h) 0 [.int .i64 (0 : Int), .slice Sl.nil.base Sl.nil.len Sl.nil.cap] vh16 fun vh17 =>
        ∃ x12 : Int, ∃ x13 : Sl, hcell vh17 ((nw h)) = some (.int .i64 x12) ∧ hcell vh17 ((nw h).add 1) = some (.slice x13.base x13.len x13.cap) ∧
        R (.tuple #[.agg #[.int .i64 x12, .slice x13.base x13.len x13.cap], .int .i64 (0 : Int), .int .i64 (0 : Int), .int .i64 (13 : Int)]) vh17)
      (∃ c31 : Int, ∃ c32 : Sl, hcell vh16 ((nw vh14)) = some (.int .i64 c31) ∧ hcell vh16 ((nw vh14).add 1) = some (.slice c32.base c32.len c32.cap) ∧
        ∃ c33 : Int, hcell vh16 ((nw vh2).add 1) = some (.int .i64 c33) ∧
        HCalls Try.prog fn_scarpref11_EncodeBatch #[.agg #[.int .i64 c31, .slice c32.base c32.len c32.cap], .int .i64 c33] vh16 fun r2 vh18 =>
        ∃ c34 : Sl, ∃ c35 : Int, r2 = .tuple #[.slice c34.base c34.len c34.cap, .int .i64 c35] ∧
        IfB (c35 != (0 : Int)) (stCells (nw h) 0 [.int .i64 (0 : Int), .slice Sl.nil.base Sl.nil.len Sl.nil.cap] vh18 fun vh19 =>
          ∃ x14 : Int, ∃ x15 : Sl, hcell vh19 ((nw h)) = some (.int .i64 x14) ∧ hcell vh19 ((nw h).add 1) = some (.slice x15.base x15.len x15.cap) ∧
          R (.tuple #[.agg #[.int .i64 x14, .slice x15.base x15.len x15.cap], .int .i64 (0 : Int), .int .i64 (0 : Int), .int .i64 (13 : Int)]) vh19)
        (IfB ((c34.len : Int) != (iAdd .i64 i (1 : Int))) (stCells (nw h) 0 [.int .i64 (0 : Int), .slice Sl.nil.base Sl.nil.len Sl.nil.cap] vh18 fun vh20 =>
            ∃ x16 : Int, ∃ x17 : Sl, hcell vh20 ((nw h)) = some (.int .i64 x16) ∧ hcell vh20 ((nw h).add 1) = some (.slice x17.base x17.len x17.cap) ∧
            R (.tuple #[.agg #[.int .i64 x16, .slice x17.base x17.len x17.cap], .int .i64 (0 : Int), .int .i64 (0 : Int), .int .i64 (13 : Int)]) vh20)
          (∃ (vI1 : Int → Nat → Hp → Prop) (n3 : Nat), vI1 (0 : Int) n3 vh18 ∧
            ∀ _junk : Nat → Value, ∀ k : Int, ∀ (n4 : Nat) (vh21 : Hp), vI1 k n4 vh21 →
            IfB (decide (k ≤ i)) (∃ a5 : Addr, c34.base = some a5 ∧ 0 ≤ k ∧ k < (c34.len : Int) ∧
              ∃ c36 : Sl, hcell vh21 (a5.add ((k).toNat * 1)) = some (.slice c36.base c36.len c36.cap) ∧
              ∃ a6 : Addr, l.base = some a6 ∧ 0 ≤ k ∧ k < (l.len : Int) ∧
              ∃ c37 : Sl, hcell vh21 (a6.add ((k).toNat * 1)) = some (.slice c37.base c37.len c37.cap) ∧
              (∃ bs : List UInt8, bs.length = c36.len ∧ RdC vh21 c36.base (bs.map fun x => .int .u8 (x.toNat : Int)) ∧
                Ext vh21 vh21 ∧
                ∃ bs1 : List UInt8, bs1.length = c37.len ∧ RdC vh21 c37.base (bs1.map fun x => .int .u8 (x.toNat : Int)) ∧
                Ext vh21 vh21 ∧
                IfB (!((ByteArray.mk bs.toArray).toList == (ByteArray.mk bs1.toArray).toList)) (stCells (nw h) 0 [.int .i64 (0 : Int), .slice Sl.nil.base Sl.nil.len Sl.nil.cap] vh21 fun vh22 =>
                  ∃ x18 : Int, ∃ x19 : Sl, hcell vh22 ((nw h)) = some (.int .i64 x18) ∧ hcell vh22 ((nw h).add 1) = some (.slice x19.base x19.len x19.cap) ∧
                  R (.tuple #[.agg #[.int .i64 x18, .slice x19.base x19.len x19.cap], .int .i64 (0 : Int), .int .i64 (0 : Int), .int .i64 (13 : Int)]) vh22)
                (∃ n5, n5 < n4 ∧ vI1 (iAdd .i64 k (1 : Int)) n5 vh21)) ∧
              (∃ bs2 : List UInt8, bs2.length = c37.len ∧ RdC vh21 c37.base (bs2.map fun x => .int .u8 (x.toNat : Int)) ∧
                Ext vh21 vh21 ∧
                ∃ bs3 : List UInt8, bs3.length = c36.len ∧ RdC vh21 c36.base (bs3.map fun x => .int .u8 (x.toNat : Int)) ∧
                Ext vh21 vh21 ∧
                IfB (!((ByteArray.mk bs3.toArray).toList == (ByteArray.mk bs2.toArray).toList)) (stCells (nw h) 0 [.int .i64 (0 : Int), .slice Sl.nil.base Sl.nil.len Sl.nil.cap] vh21 fun vh23 =>
                  ∃ x20 : Int, ∃ x21 : Sl, hcell vh23 ((nw h)) = some (.int .i64 x20) ∧ hcell vh23 ((nw h).add 1) = some (.slice x21.base x21.len x21.cap) ∧
                  R (.tuple #[.agg #[.int .i64 x20, .slice x21.base x21.len x21.cap], .int .i64 (0 : Int), .int .i64 (0 : Int), .int .i64 (13 : Int)]) vh23)
                (∃ n5, n5 < n4 ∧ vI1 (iAdd .i64 k (1 : Int)) n5 vh21)))
            (∃ hR : Hp, Sub hR vh21 ∧
              ∃ c38 : Int, ∃ c39 : Sl, hcell hR ((nw vh14)) = some (.int .i64 c38) ∧ hcell hR ((nw vh14).add 1) = some (.slice c39.base c39.len c39.cap) ∧
              ∃ c40 : Int, hcell hR ((nw vh2).add 1) = some (.int .i64 c40) ∧
              stCells (nw h) 0 [.int .i64 c38, .slice c39.base c39.len c39.cap] vh21 fun vh24 =>
              Sub hR vh24 ∧
              ∃ x22 : Int, ∃ x23 : Sl, hcell vh24 ((nw h)) = some (.int .i64 x22) ∧ hcell vh24 ((nw h).add 1) = some (.slice x23.base x23.len x23.cap) ∧
              R (.tuple #[.agg #[.int .i64 x22, .slice x23.base x23.len x23.cap], .int .i64 c40, .int .i64 (iAdd .i64 i (1 : Int)), .int .i64 (0 : Int)]) vh24))))))
  (stCells (nw h) 0 [.int .i64 (0 : Int), .slice Sl.nil.base Sl.nil.len Sl.nil.cap] vh1 fun vh25 =>
    ∃ x24 : Int, ∃ x25 : Sl, hcell vh25 ((nw h)) = some (.int .i64 x24) ∧ hcell vh25 ((nw h).add 1) = some (.slice x25.base x25.len x25.cap) ∧
    R (.tuple #[.agg #[.int .i64 x24, .slice x25.base x25.len x25.cap], .int .i64 (0 : Int), .int .i64 (0 : Int), .int .i64 (14 : Int)]) vh25)
theorem scarpref11_DecodeBatch_vc {l : Sl} {h : Hp} {R : Value → Hp → Prop} (H : vcscarpref11_DecodeBatch l h R) : HCalls Try.prog fn_scarpref11_DecodeBatch #[.slice l.base l.len l.cap] h R :=
  vc_fn (annOfL [(0, [(6, .sl), (7, .int .i64)]), (1, [(14, .int .i64)])] [(8, [])] [21]) Try.func17 [.slice l.base l.len l.cap] (by kernel_rfl) (V := vcscarpref11_DecodeBatch l h R) (by kernel_rfl) H

end Go.Proofs.Ytehhkjgcklhfcaa
