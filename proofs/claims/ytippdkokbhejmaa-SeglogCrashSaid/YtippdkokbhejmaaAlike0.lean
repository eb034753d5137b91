/-
  What the functions of scarpalike do that these laws reach: contracts.
-/
import Derived.Test.YtippdkokbhejmaaG
import Derived.Test.YtippdkokbhejmaaMem
namespace Go.Proofs.Ytippdkokbhejmaa
set_option linter.unusedVariables false
set_option linter.unusedSimpArgs false

theorem emod_of_tmod {k n : Int} (hn : 0 < n) : k % n = if k.tmod n < 0 then k.tmod n + n else k.tmod n := by
  have h1 := Int.emod_nonneg k (show n ≠ 0 by omega)
  have h2 := Int.emod_lt_of_pos k hn
  have h3 := Int.tmod_eq_emod (a := k) (b := n)
  split <;> split at h3 <;> omega
theorem Round_spec (k n : Int) (hn : 0 < n) (hn2 : n ≤ 9223372036854775807) (h : Hp) : HCalls Try.prog fn_scarpalike_Round #[.int .i64 k, .int .i64 n] h fun r h' => r = .int .i64 (k % n) ∧ h' = h := by
  apply scarpalike_Round_vc
  unfold vcscarpalike_Round
  have e := emod_of_tmod (k := k) hn
  have h1 := Int.emod_nonneg k (show n ≠ 0 by omega)
  have h2 := Int.emod_lt_of_pos k hn
  refine ⟨by omega, ?_⟩
  unfold iRem
  refine IfB.dec (fun hlt => ?_) (fun hge => ?_)
  · rw [if_pos hlt] at e
    rw [iAdd64 (by omega)]
    exact ⟨by rw [e], rfl⟩
  · rw [if_neg hge] at e
    exact ⟨by rw [e], rfl⟩

end Go.Proofs.Ytippdkokbhejmaa
