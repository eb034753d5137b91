/-
  scarpref6.Crc.
-/
import Derived.Test.YtehhkjgcklhfcaaCrc0
namespace Go.Proofs.Ytehhkjgcklhfcaa
set_option linter.unusedVariables false
set_option linter.unusedSimpArgs false

/-- the document's own. -/
theorem refCrc_spec {h : Hp} {s : Sl} {l : List UInt8} (hl : l.length = s.len) (hr : RdC h s.base (l.map bv)) (hmax : l.length < 9223372036854775807) :
    HCalls Try.prog fn_scarpref6_Crc #[.slice s.base s.len s.cap] h fun r h' => r = .int .u32 (crcN l : Int) ∧ h' = h := by
  apply scarpref6_Crc_vc
  unfold vcscarpref6_Crc
  refine ⟨fun r i m h' => h = h' ∧ ∃ k : Nat, i = k ∧ m + k = l.length ∧ r = ((creg cones (l.take k)).toNat : Int), l.length, ⟨rfl, 0, rfl, rfl, rfl⟩, ?_⟩
  rintro _ _ _ m _ ⟨rfl, k, rfl, hm, rfl⟩
  refine IfB.dec (fun hlt => ?_) (fun hge => ?_)
  · have hk : k < l.length := by omega
    refine ixB hr hl k rfl hk ?_
    rw [xor_byte]
    refine ⟨fun r i m h' => h = h' ∧ ∃ j : Nat, i = j ∧ m + j = 8 ∧ r = ((cpow j (creg cones (l.take k) ^^^ l[k].toBitVec.setWidth 32)).toNat : Int), 8, ⟨rfl, 0, rfl, rfl, rfl⟩, ?_⟩
    rintro _ _ _ m' _ ⟨rfl, j, rfl, hj, rfl⟩
    refine IfB.dec (fun h8 => ?_) (fun h8 => ?_)
    · obtain ⟨x, hxj⟩ : ∃ x, x = cpow j (creg cones (l.take k) ^^^ l[k].toBitVec.setWidth 32) := ⟨_, rfl⟩
      rw [← hxj]
      have ea : iAnd .u32 (x.toNat : Int) (1 : Int) = ((x.toNat % 2 : Nat) : Int) := by
        rw [show (1 : Int) = ((1 : Nat) : Int) by rfl, iAnd_nat u32s (by simpa [IntKind.bits] using x.isLt) (by simp [IntKind.bits]), Nat.and_one_is_mod]
      have es : iShr .u32 (x.toNat : Int) (1 : Int) = ((x.toNat / 2 : Nat) : Int) := iShr_nat (k := .u32) (b := 1) (by simp [IntKind.bits])
      have eb : iAdd .i64 (j : Int) (1 : Int) = ((j + 1 : Nat) : Int) := by rw [iAdd64 (by omega)]; push_cast; rfl
      have hx := x.isLt
      rw [ea, es, eb]
      have hn : (cstep x).toNat = nstep x.toNat := nstep_eq x
      refine IfB.eq (fun h1 => ?_) (fun h1 => ?_)
      · refine ⟨by omega, m' - 1, by omega, rfl, j + 1, rfl, by omega, ?_⟩
        rw [cpow_succ, ← hxj, hn, show (2197175160 : Int) = ((2197175160 : Nat) : Int) by rfl, iXor_nat u32s (by simp only [IntKind.bits]; omega) (by simp [IntKind.bits])]
        unfold nstep
        rw [if_pos (by omega)]
      · refine ⟨by omega, m' - 1, by omega, rfl, j + 1, rfl, by omega, ?_⟩
        rw [cpow_succ, ← hxj, hn]
        unfold nstep
        rw [if_neg (by omega)]; simp
    · obtain rfl : j = 8 := by omega
      refine ⟨m - 1, by omega, rfl, k + 1, ?_, by omega, ?_⟩
      · rw [iAdd64 (by omega)]; push_cast; rfl
      · rw [creg_snoc _ _ _ hk]
  · obtain rfl : k = l.length := by omega
    rw [List.take_length, not_bv]
    exact ⟨rfl, rfl⟩

end Go.Proofs.Ytehhkjgcklhfcaa
