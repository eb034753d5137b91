/-
  scarpalike.Bytes.
-/
import Derived.Test.YtippdkokbhejmaaAlike0
namespace Go.Proofs.Ytippdkokbhejmaa
set_option linter.unusedVariables false
set_option linter.unusedSimpArgs false

/-- two rows of bytes. -/
theorem Bytes_spec {h : Hp} {s t : Sl} {a b : List UInt8} (ha : Rd 1 h s (a.map bv)) (hb : Rd 1 h t (b.map bv)) (hmax : a.length < 9223372036854775807) :
    HCalls Try.prog fn_scarpalike_Bytes #[.slice s.base s.len s.cap, .slice t.base t.len t.cap] h fun r h' => r = .bool (decide (a = b)) ∧ h' = h := by
  apply scarpalike_Bytes_vc
  unfold vcscarpalike_Bytes
  have la := ha.lenB
  have lb := hb.lenB
  refine IfB.ne (fun hne => ⟨?_, rfl⟩) (fun heq => ?_)
  · rw [decide_eq_false]; rintro rfl; omega
  refine ⟨fun i m h' => h = h' ∧ ∃ k : Nat, i = k ∧ m + k = a.length ∧ a.take k = b.take k, a.length, ⟨rfl, 0, rfl, rfl, rfl⟩, ?_⟩
  rintro _ _ m _ ⟨rfl, k, rfl, hm, ht⟩
  refine IfB.dec (fun hlt => ?_) (fun hge => ?_)
  · refine ixB ha.rd la k rfl (by omega) ?_
    refine ixB hb.rd lb k rfl (by omega) ?_
    refine IfB.ne (fun hne => ⟨?_, rfl⟩) (fun he => ?_)
    · rw [decide_eq_false]; rintro rfl; exact hne rfl
    · refine ⟨m - 1, by omega, rfl, k + 1, ?_, by omega, ?_⟩
      · rw [iAdd64 (by omega)]; push_cast; rfl
      · rw [List.take_succ_eq_append_getElem (by omega), List.take_succ_eq_append_getElem (by omega), ht]
        congr 2
        exact UInt8.toNat_inj.1 (by omega)
  · refine ⟨?_, rfl⟩
    rw [List.take_of_length_le (by omega), List.take_of_length_le (by omega)] at ht
    rw [decide_eq_true ht]

end Go.Proofs.Ytippdkokbhejmaa
