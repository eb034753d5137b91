/-
  Numbers as bytes, as plain functions: groups of seven digits; so many bytes, the least first.
-/
import Derived.Test.YtippdkokbhejmaaMem
namespace Go.Proofs.Ytippdkokbhejmaa
set_option linter.unusedVariables false
set_option linter.unusedSimpArgs false

/-- a number in groups of seven digits. -/
def varintL (v : Nat) : List UInt8 :=
  if v < 128 then [UInt8.ofNat v] else (UInt8.ofNat v ||| 128) :: varintL (v / 128)
termination_by v
decreasing_by omega
theorem varintL_lt {v : Nat} (h : v < 128) : varintL v = [UInt8.ofNat v] := by unfold varintL; rw [if_pos h]
theorem varintL_ge {v : Nat} (h : ¬ v < 128) : varintL v = (UInt8.ofNat v ||| 128) :: varintL (v / 128) := by rw [varintL, if_neg h]
theorem varintL_len_pos (v : Nat) : 0 < (varintL v).length := by
  unfold varintL; split <;> simp
/-- how many groups. -/
def vlen (v : Nat) : Nat := (varintL v).length
theorem vlen_lt {v : Nat} (h : v < 128) : vlen v = 1 := by unfold vlen; rw [varintL_lt h]; rfl
theorem vlen_ge {v : Nat} (h : ¬ v < 128) : vlen v = vlen (v / 128) + 1 := by unfold vlen; rw [varintL_ge h]; rfl
theorem vlen_le (n : Nat) : ∀ v, v < 128 ^ n → 0 < n → vlen v ≤ n := by
  induction n with
  | zero => intro v _ h; omega
  | succ n ih =>
    intro v hv _
    by_cases h : v < 128
    · rw [vlen_lt h]; omega
    · rw [vlen_ge h]
      have h1 : v / 128 < 128 ^ n := by rw [Nat.pow_succ] at hv; exact Nat.div_lt_of_lt_mul (by omega)
      have h2 : 0 < n := by
        rcases Nat.eq_zero_or_pos n with h0 | h0
        · subst h0; simp at hv; omega
        · exact h0
      have := ih _ h1 h2
      omega
theorem vlen_le10 {v : Nat} (h : v < 2 ^ 64) : vlen v ≤ 10 := vlen_le 10 v (by omega) (by omega)
/-- all groups but the last go on; the last one ends. -/
theorem varintL_get (v : Nat) : ∀ i (hi : i < (varintL v).length), (i + 1 < (varintL v).length → 128 ≤ (varintL v)[i].toNat) ∧ (i + 1 = (varintL v).length → (varintL v)[i].toNat < 128) := by
  induction v using Nat.strongRecOn with
  | _ v ih =>
    by_cases h : v < 128
    · rw [varintL_lt h]
      intro i hi
      simp at hi; subst hi
      refine ⟨fun h' => by simp at h', fun _ => ?_⟩
      simp; omega
    · rw [varintL_ge h]
      intro i hi
      cases i with
      | zero =>
        refine ⟨fun _ => ?_, fun h' => ?_⟩
        · simp only [List.getElem_cons_zero, UInt8.toNat_or]
          exact Nat.right_le_or
        · have := varintL_len_pos (v / 128)
          simp only [List.length_cons] at h'; omega
      | succ i =>
        have := ih (v / 128) (by omega) i (by simpa using hi)
        simpa using this
/-- the byte of a number at a place. -/
def byteAt (v j : Nat) : UInt8 := UInt8.ofNat (v / 2 ^ (8 * j))
/-- so many bytes of a number, the least first. -/
def leB (n v : Nat) : List UInt8 := (List.range n).map (byteAt v)
theorem leB_length (n v : Nat) : (leB n v).length = n := by simp [leB]
theorem leB_get {n v j : Nat} (h : j < n) : (leB n v)[j]? = some (byteAt v j) := by simp [leB, h]

end Go.Proofs.Ytippdkokbhejmaa
