/-
  scarpalike.Block: bytes of one's own.
-/
import Derived.Test.YtippdkokbhejmaaAlike0
import Derived.Test.YtippdkokbhejmaaBits0
namespace Go.Proofs.Ytippdkokbhejmaa
set_option linter.unusedVariables false
set_option linter.unusedSimpArgs false

def blkAt (k : Int) (i : Nat) : UInt8 := UInt8.ofNat ((iAdd .i64 (iAdd .i64 (iMul .i64 (i : Int) (i : Int)) (iMul .i64 k (7 : Int))) (1 : Int)) % 251).toNat
def blockL (n : Nat) (k : Int) : List UInt8 := (List.range n).map (blkAt k)
theorem blockL_length (n : Nat) (k : Int) : (blockL n k).length = n := by simp [blockL]
theorem Block_spec (n : Int) (k : Int) (hn : n ≤ 1000000) (h : Hp) : HCalls Try.prog fn_scarpalike_Block #[.int .i64 n, .int .i64 k] h (NewB h (blockL n.toNat k)) := by
  apply scarpalike_Block_vc
  unfold vcscarpalike_Block
  obtain ⟨m, hm, hm2⟩ : ∃ m : Nat, (if n < 0 then (0 : Int) else n) = m ∧ n.toNat = m := by
    by_cases h0 : n < 0
    · exact ⟨0, by rw [if_pos h0]; rfl, by omega⟩
    · exact ⟨n.toNat, by rw [if_neg h0]; omega, rfl⟩
  rw [hm, hm2]
  have hmb : m ≤ 1000000 := by omega
  refine MkC_own (by omega) (by omega) ?_
  have o0 : Own h.size 1 (alc h (List.replicate m (.int .u8 (0 : Int))) ty_uint8) ⟨some (nw h), m, m⟩ (((blockL m k).take 0 ++ List.replicate (m - 0) 0).map bv) := by
    have := Own.alc h (List.replicate m (.int .u8 (0 : Int))) ty_uint8 m 1 (by simp)
    simpa [bv] using this
  refine ⟨fun i q h' => ∃ j : Nat, i = j ∧ q + j = m ∧ Ext h h' ∧ Own h.size 1 h' ⟨some (nw h), m, m⟩ (((blockL m k).take j ++ List.replicate (m - j) 0).map bv), m, ⟨0, rfl, rfl, alc_ext _ _ _, o0⟩, ?_⟩
  rintro _ _ q h1 ⟨j, rfl, hq, e1, o1⟩
  refine IfB.dec (fun hlt => ?_) (fun hge => ?_)
  · have hj : j < m := by simp only at hlt; omega
    refine (Round_spec _ 251 (by omega) (by omega) h1).mono ?_
    rintro _ _ ⟨rfl, rfl⟩
    refine ⟨_, rfl, _, rfl, by omega, hlt, ?_⟩
    have hlen : ((((blockL m k).take j ++ List.replicate (m - j) 0)).map bv).length = m := by simp [blockL_length]; omega
    obtain ⟨ok, o2, k2, _, _⟩ := o1.set (a := nw h) rfl (k := j) (by rw [hlen]; exact hj) (bv (blkAt k j))
    have hv : Value.int .u8 (iConv .u8 ((iAdd .i64 (iAdd .i64 (iMul .i64 (j : Int) (j : Int)) (iMul .i64 k (7 : Int))) (1 : Int)) % 251)) = bv (blkAt k j) := by
      unfold blkAt
      rw [← bv_conv]
      congr 2
      have := Int.emod_nonneg (iAdd .i64 (iAdd .i64 (iMul .i64 (j : Int) (j : Int)) (iMul .i64 k (7 : Int))) (1 : Int)) (show (251 : Int) ≠ 0 by omega)
      omega
    rw [hv]
    simp only [Int.toNat_natCast, Nat.mul_one]
    refine ⟨ok, q - 1, by omega, j + 1, by rw [iAdd64 (by omega)]; push_cast; rfl, by omega, (e1.toKeep.trans k2).ext, ?_⟩
    have hset : ((((blockL m k).take j ++ List.replicate (m - j) 0)).map bv).set j (bv (blkAt k j)) = (((blockL m k).take (j + 1) ++ List.replicate (m - (j + 1)) 0)).map bv := by
      rw [← List.map_set]
      congr 1
      have hjl : ((blockL m k).take j).length = j := by simp [blockL_length]; omega
      rw [List.set_append_right _ _ (by omega), hjl, Nat.sub_self, show m - j = (m - (j + 1)) + 1 by omega, List.replicate_succ, List.set_cons_zero]
      rw [List.take_succ_eq_append_getElem (by rw [blockL_length]; exact hj)]
      simp [blockL]
    rw [← hset]; exact o2
  · have hj : j = m := by simp only at hge; omega
    subst hj
    rw [Nat.sub_self, List.replicate_zero, List.append_nil, List.take_of_length_le (by rw [blockL_length]; omega)] at o1
    exact ⟨⟨some (nw h), j, j⟩, rfl, o1, by rw [blockL_length], e1⟩

end Go.Proofs.Ytippdkokbhejmaa
