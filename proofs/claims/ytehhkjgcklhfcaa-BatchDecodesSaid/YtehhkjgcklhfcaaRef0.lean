/-
  scarpref6.Put, Get.
-/
import Derived.Test.YtehhkjgcklhfcaaBits1
namespace Go.Proofs.Ytehhkjgcklhfcaa
set_option linter.unusedVariables false
set_option linter.unusedSimpArgs false

theorem leB_take_succ {n v k : Nat} (h : k < n) : (leB n v).take (k + 1) = (leB n v).take k ++ [byteAt v k] := by
  rw [leB_take (by omega), leB_take (by omega), leB_succ]
theorem refPut_spec (v n : Nat) (hn : n ≤ 8) (h : Hp) : HCalls Try.prog fn_scarpref6_Put #[.int .u64 (v : Int), .int .i64 (n : Int)] h (NewB h (leB n v)) := by
  apply scarpref6_Put_vc
  unfold vcscarpref6_Put
  refine ⟨fun s i m h' => ∃ k : Nat, i = k ∧ m + k = n ∧ Own h.size 1 h' s (((leB n v).take k).map bv) ∧ s.len = k ∧ Keep h.size h h', n, ⟨0, rfl, rfl, Own.nil _ _ _, rfl, .refl _ _⟩, ?_⟩
  rintro _ s _ m h' ⟨k, rfl, hm, ho, hl, hk⟩
  refine IfB.dec (fun hlt => ?_) (fun hge => ?_)
  · have e8 : iMul .i64 (8 : Int) (k : Int) = ((8 * k : Nat) : Int) := by rw [iMul64 (by omega)]; push_cast; rfl
    rw [e8, iShr_nat (k := .u64) (by simp only [IntKind.bits]; omega), bv_conv]
    refine ⟨by omega, ?_⟩
    refine AppC_new (news := [bv (byteAt v k)]) rfl ho hk.size rfl (cellOk_bv [_]) (by omega) (by omega) fun r h'' g1 g2 g3 _ => ?_
    refine ⟨m - 1, by omega, k + 1, ?_, by omega, ?_, by omega, hk.trans g3⟩
    · rw [iAdd64 (by omega)]; push_cast; rfl
    · rw [leB_take_succ (by omega), List.map_append]; exact g1
  · obtain rfl : k = n := by omega
    refine ⟨s, rfl, ?_, by rw [leB_length]; exact hl, hk.ext⟩
    rw [List.take_of_length_le (by rw [leB_length]; exact Nat.le_refl _)] at ho
    exact ho
theorem refGet_spec {h : Hp} {s : Sl} {l : List UInt8} {n : Nat} (hn : n ≤ 8) (hr : Rd 1 h s (l.map bv)) :
    HCalls Try.prog fn_scarpref6_Get #[.slice s.base s.len s.cap, .int .i64 (n : Int)] h fun r h' => r = .tuple #[.int .u64 ((getR n l).1 : Int), .bool (getR n l).2] ∧ h' = h := by
  apply scarpref6_Get_vc
  unfold vcscarpref6_Get
  have hl := hr.lenB
  refine IfB.dec (fun hlt => ?_) (fun hge => ?_)
  · unfold getR; rw [if_pos (by omega)]; exact ⟨rfl, rfl⟩
  have hnl : n ≤ l.length := by omega
  have htl : (l.take n).length = n := by rw [List.length_take]; omega
  refine ⟨fun v i k h' => h = h' ∧ i = (k : Int) - 1 ∧ k ≤ n ∧ v = (leN ((l.take n).drop k) : Int), n, ⟨rfl, by rw [iSub64 (by omega)], Nat.le_refl _, by rw [List.drop_of_length_le (by omega)]; rfl⟩, ?_⟩
  rintro _ _ _ k _ ⟨rfl, rfl, hk, rfl⟩
  refine IfB.dec (fun hlt => ?_) (fun hge' => ?_)
  · obtain ⟨j, rfl⟩ : ∃ j, k = j + 1 := ⟨k - 1, by omega⟩
    have hj : j < l.length := by omega
    have ej : ((j + 1 : Nat) : Int) - 1 = (j : Int) := by omega
    rw [ej]
    have hd : (l.take n).drop j = l[j] :: (l.take n).drop (j + 1) := by
      rw [List.drop_eq_getElem_cons (by omega)]; simp
    have hlt := leN_lt ((l.take n).drop (j + 1))
    rw [List.length_drop, htl] at hlt
    have hp : 2 ^ (8 * (n - (j + 1))) * 256 ≤ 2 ^ 64 := by
      rw [show 256 = 2 ^ 8 by rfl, ← Nat.pow_add]; exact Nat.pow_le_pow_right (by omega) (by omega)
    have hc : l[j].toNat < 256 := l[j].toBitVec.isLt
    obtain ⟨x, hxe⟩ : ∃ x, x = leN ((l.take n).drop (j + 1)) := ⟨_, rfl⟩
    rw [← hxe] at hlt ⊢
    have hx : x * 256 < 2 ^ 64 := Nat.lt_of_lt_of_le (Nat.mul_lt_mul_of_pos_right hlt (by omega)) hp
    refine ⟨by omega, ?_⟩
    refine ixB hr.rd hl j rfl hj ?_
    have ec : iConv .u64 (l[j].toNat : Int) = (l[j].toNat : Int) := by rw [iConv_nat u64s, Nat.mod_eq_of_lt (by simp only [IntKind.bits]; omega)]
    rw [ec, show (8 : Int) = ((8 : Nat) : Int) by rfl, iShl_nat u64s (by simp [IntKind.bits]), Nat.mod_eq_of_lt (by simp only [IntKind.bits]; omega), iOr_nat u64s (by simp only [IntKind.bits]; omega) (by simp only [IntKind.bits]; omega), Nat.or_comm, or_add (by omega)]
    refine ⟨j, by omega, rfl, ?_, by omega, ?_⟩
    · rw [iSub64 (by omega)]
    · rw [hd]; simp only [leN]; rw [← hxe]; congr 1; omega
  · obtain rfl : k = 0 := by omega
    unfold getR; rw [if_neg (by omega)]; exact ⟨rfl, rfl⟩

end Go.Proofs.Ytehhkjgcklhfcaa
