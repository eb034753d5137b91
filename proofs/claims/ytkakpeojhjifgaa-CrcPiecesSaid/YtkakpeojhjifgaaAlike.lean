/-
  What the functions of scarpalike do that these laws reach: contracts.
-/
import Derived.Test.YtkakpeojhjifgaaG
import Derived.Test.YtkakpeojhjifgaaMem
namespace Go.Proofs.Ytkakpeojhjifgaa
set_option linter.unusedVariables false
set_option linter.unusedSimpArgs false

theorem emod_of_tmod {k n : Int} (hn : 0 < n) : k % n = if k.tmod n < 0 then k.tmod n + n else k.tmod n := by
  have h1 := Int.emod_nonneg k (show n ≠ 0 by omega)
  have h2 := Int.emod_lt_of_pos k hn
  have h3 := Int.tmod_eq_emod (a := k) (b := n)
  split <;> split at h3 <;> omega
theorem Round_spec (k n : Int) (hn : 0 < n) (hn2 : n ≤ 9223372036854775807) (h : Hp) : HCalls Try.prog fn_scarpalike_Round #[.int .i64 k, .int .i64 n] h fun r h' => r = .int .i64 (k % n) ∧ h' = h := by
  apply scarpalike_Round_vc
  unfold vcscarpalike_Round
  have e := emod_of_tmod (k := k) hn
  have h1 := Int.emod_nonneg k (show n ≠ 0 by omega)
  have h2 := Int.emod_lt_of_pos k hn
  refine ⟨by omega, ?_⟩
  unfold iRem
  refine IfB.dec (fun hlt => ?_) (fun hge => ?_)
  · rw [if_pos hlt] at e
    rw [iAdd64 (by omega)]
    exact ⟨by rw [e], rfl⟩
  · rw [if_neg hge] at e
    exact ⟨by rw [e], rfl⟩

/-- two rows of bytes. -/
theorem Bytes_spec {h : Hp} {s t : Sl} {a b : List UInt8} (ha : Rd 1 h s (a.map bv)) (hb : Rd 1 h t (b.map bv)) (hmax : a.length < 9223372036854775807) :
    HCalls Try.prog fn_scarpalike_Bytes #[.slice s.base s.len s.cap, .slice t.base t.len t.cap] h fun r h' => r = .bool (decide (a = b)) ∧ h' = h := by
  apply scarpalike_Bytes_vc
  unfold vcscarpalike_Bytes
  have la := ha.lenB
  have lb := hb.lenB
  refine IfB.ne (fun hne => ⟨?_, rfl⟩) (fun heq => ?_)
  · rw [decide_eq_false]; rintro rfl; omega
  refine ⟨fun i m h' => h = h' ∧ ∃ k : Nat, i = k ∧ m + k = a.length ∧ a.take k = b.take k, a.length, ⟨rfl, 0, rfl, rfl, rfl⟩, ?_⟩
  rintro _ _ m _ ⟨rfl, k, rfl, hm, ht⟩
  refine IfB.dec (fun hlt => ?_) (fun hge => ?_)
  · refine ixB ha.rd la k rfl (by omega) ?_
    refine ixB hb.rd lb k rfl (by omega) ?_
    refine IfB.ne (fun hne => ⟨?_, rfl⟩) (fun he => ?_)
    · rw [decide_eq_false]; rintro rfl; exact hne rfl
    · refine ⟨m - 1, by omega, rfl, k + 1, ?_, by omega, ?_⟩
      · rw [iAdd64 (by omega)]; push_cast; rfl
      · rw [List.take_succ_eq_append_getElem (by omega), List.take_succ_eq_append_getElem (by omega), ht]
        congr 2
        exact UInt8.toNat_inj.1 (by omega)
  · refine ⟨?_, rfl⟩
    rw [List.take_of_length_le (by omega), List.take_of_length_le (by omega)] at ht
    rw [decide_eq_true ht]

end Go.Proofs.Ytkakpeojhjifgaa
