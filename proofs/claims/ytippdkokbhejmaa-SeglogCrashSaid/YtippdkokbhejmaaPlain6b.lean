/-
  Reading numbers out of bytes, as plain functions.
-/
import Derived.Test.YtippdkokbhejmaaPlain6
namespace Go.Proofs.Ytippdkokbhejmaa
set_option linter.unusedVariables false
set_option linter.unusedSimpArgs false

/-- one group more. -/
def dig (v : Nat) (c : UInt8) (i : Nat) : Nat := v ||| ((c.toNat % 128) * 2 ^ (7 * i) % 2 ^ 64)
/-- the number that bytes begin with, and how many they are; (0, 0): none. -/
def unvarL : Nat → Nat → List UInt8 → Nat × Nat
  | _, _, [] => (0, 0)
  | i, v, c :: r => if 10 ≤ i then (0, 0) else if c.toNat < 128 then (if (i + 1 = 10 ∧ 1 < c.toNat) ∨ (1 < i + 1 ∧ c.toNat = 0) then (0, 0) else (dig v c i, i + 1)) else unvarL (i + 1) (dig v c i) r
theorem or_add {a b k : Nat} (h : a < 2 ^ k) : a ||| b * 2 ^ k = a + b * 2 ^ k := by
  have := Nat.two_pow_add_eq_or_of_lt h b
  rw [Nat.mul_comm b, Nat.or_comm, ← this, Nat.add_comm]
theorem dig_eq {v : Nat} {c : UInt8} {i : Nat} (hv : v < 2 ^ (7 * i)) (h : (c.toNat % 128) * 2 ^ (7 * i) < 2 ^ 64) : dig v c i = v + (c.toNat % 128) * 2 ^ (7 * i) := by
  unfold dig; rw [Nat.mod_eq_of_lt h, or_add hv]
theorem pow7 (i : Nat) : 2 ^ (7 * (i + 1)) = 128 * 2 ^ (7 * i) := by rw [show 7 * (i + 1) = 7 + 7 * i by omega, Nat.pow_add]
theorem pow7_le {i : Nat} (h : 2 ^ (7 * i) < 2 ^ 64) : i ≤ 9 := by
  have := (Nat.pow_lt_pow_iff_right (a := 2) (by omega)).1 h
  omega
theorem or128_mod (x : Nat) : (UInt8.ofNat x ||| 128).toNat % 128 = x % 128 ∧ 128 ≤ (UInt8.ofNat x ||| 128).toNat := by
  have e : (UInt8.ofNat x ||| 128).toNat = (x % 256) ||| 128 := by simp
  have h1 : 128 ≤ (x % 256 ||| 128) := Nat.right_le_or
  refine ⟨?_, by rw [e]; exact h1⟩
  rw [e]
  apply Nat.eq_of_testBit_eq
  intro j
  rw [show (128 : Nat) = 2 ^ 7 by rfl, Nat.testBit_mod_two_pow, Nat.testBit_mod_two_pow, Nat.testBit_or, show (256 : Nat) = 2 ^ 8 by rfl, Nat.testBit_mod_two_pow]
  by_cases hj : j < 7
  · have hb : Nat.testBit 128 j = false := by
      show Nat.testBit (2 ^ 7) j = false
      rw [Nat.testBit_two_pow]; simp; omega
    simp [hj, hb, show j < 8 by omega]
  · simp [hj]
theorem unvar_varint (t : List UInt8) : ∀ (x i acc : Nat), acc < 2 ^ (7 * i) → acc + x * 2 ^ (7 * i) < 2 ^ 64 → (0 < x ∨ i = 0) → unvarL i acc (varintL x ++ t) = (acc + x * 2 ^ (7 * i), i + vlen x) := by
  intro x
  induction x using Nat.strongRecOn with
  | _ x ih =>
    intro i acc hacc hb hx
    have hi : i ≤ 9 := by
      rcases hx with hx | rfl
      · refine pow7_le ?_
        have : 1 * 2 ^ (7 * i) ≤ x * 2 ^ (7 * i) := Nat.mul_le_mul_right _ hx
        omega
      · omega
    by_cases h : x < 128
    · rw [varintL_lt h, vlen_lt h]
      have hc : (UInt8.ofNat x).toNat = x := by simp; omega
      simp only [List.cons_append, List.nil_append, unvarL, hc]
      have hnot : ¬ ((i + 1 = 10 ∧ 1 < x) ∨ (1 < i + 1 ∧ x = 0)) := by
        rintro (⟨h9, h1⟩ | ⟨h1, h0⟩)
        · obtain rfl : i = 9 := by omega
          have : 2 * 2 ^ 63 ≤ x * 2 ^ (7 * 9) := Nat.mul_le_mul_right _ h1
          omega
        · omega
      rw [if_neg (by omega), if_pos h, if_neg hnot, dig_eq hacc (by rw [hc, Nat.mod_eq_of_lt h]; omega), hc, Nat.mod_eq_of_lt h]
    · rw [varintL_ge h, vlen_ge h]
      obtain ⟨e1, e2⟩ := or128_mod x
      simp only [List.cons_append, unvarL]
      rw [if_neg (by omega), if_neg (by omega)]
      have hsplit : x = 128 * (x / 128) + x % 128 := by omega
      have hm : x * 2 ^ (7 * i) = (x / 128) * 2 ^ (7 * (i + 1)) + (x % 128) * 2 ^ (7 * i) := by
        conv => lhs; rw [hsplit]
        rw [pow7, Nat.add_mul, ← Nat.mul_assoc, Nat.mul_comm 128]
      have hd : dig acc (UInt8.ofNat x ||| 128) i = acc + (x % 128) * 2 ^ (7 * i) := by rw [dig_eq hacc (by rw [e1]; omega), e1]
      have hlt : (x % 128 + 1) * 2 ^ (7 * i) ≤ 128 * 2 ^ (7 * i) := Nat.mul_le_mul_right _ (by omega)
      rw [hd, ih (x / 128) (by omega) (i + 1) _ (by rw [pow7]; rw [Nat.add_mul] at hlt; omega) (by omega) (by omega)]
      refine Prod.ext ?_ ?_
      · show acc + _ + _ = _; omega
      · show i + 1 + _ = _; omega
theorem unvar_short : ∀ (x i acc j : Nat), j < vlen x → unvarL i acc ((varintL x).take j) = (0, 0) := by
  intro x
  induction x using Nat.strongRecOn with
  | _ x ih =>
    intro i acc j hj
    cases j with
    | zero => simp [unvarL]
    | succ j =>
      have h : ¬ x < 128 := fun h => by rw [vlen_lt h] at hj; omega
      rw [vlen_ge h] at hj
      rw [varintL_ge h, List.take_succ_cons]
      obtain ⟨e1, e2⟩ := or128_mod x
      simp only [unvarL]
      split
      · rfl
      · rw [if_neg (by omega)]
        exact ih (x / 128) (by omega) _ _ j (by omega)
theorem unvar_whole {v : Nat} (hv : v < 2 ^ 64) (t : List UInt8) : unvarL 0 0 (varintL v ++ t) = (v, vlen v) := by
  have := unvar_varint t v 0 0 (by simp) (by simpa using hv) (.inr rfl)
  simpa using this
/-- none of two is the other one's beginning. -/
theorem varint_apart {v w : Nat} (hv : v < 2 ^ 64) (hw : w < 2 ^ 64) : (varintL v).take (min (vlen v) (vlen w)) = (varintL w).take (min (vlen v) (vlen w)) ↔ v = w := by
  constructor
  · intro h
    rcases Nat.le_total (vlen v) (vlen w) with hle | hle
    · rw [Nat.min_eq_left hle, List.take_of_length_le (by exact Nat.le_refl _)] at h
      have h1 := unvar_whole hv ((varintL w).drop (vlen v))
      rw [h, List.take_append_drop] at h1
      have h2 := unvar_whole hw []
      rw [List.append_nil] at h2
      rw [h2] at h1
      exact (congrArg Prod.fst h1).symm
    · rw [Nat.min_eq_right hle] at h
      have h' : (varintL v).take (vlen w) = varintL w := by rw [h]; exact List.take_of_length_le (Nat.le_refl _)
      have h1 := unvar_whole hw ((varintL v).drop (vlen w))
      rw [← h', List.take_append_drop] at h1
      have h2 := unvar_whole hv []
      rw [List.append_nil] at h2
      rw [h2] at h1
      exact congrArg Prod.fst h1
  · rintro rfl; rfl

/-- the number of bytes, the least first. -/
def leN : List UInt8 → Nat
  | [] => 0
  | c :: r => c.toNat + 256 * leN r
theorem leN_lt : ∀ l : List UInt8, leN l < 2 ^ (8 * l.length)
  | [] => by simp [leN]
  | c :: r => by
    have := leN_lt r
    have hc : c.toNat < 256 := c.toBitVec.isLt
    simp only [leN, List.length_cons]
    rw [show 8 * (r.length + 1) = 8 + 8 * r.length by omega, Nat.pow_add]
    have : 2 ^ 8 = 256 := rfl
    omega
theorem leN_append : ∀ (a b : List UInt8), leN (a ++ b) = leN a + 2 ^ (8 * a.length) * leN b
  | [], b => by simp [leN]
  | c :: r, b => by
    simp only [List.cons_append, leN, leN_append r b, List.length_cons]
    rw [show 8 * (r.length + 1) = 8 + 8 * r.length by omega, Nat.pow_add]
    have : 2 ^ 8 = 256 := rfl
    rw [this, Nat.mul_add, Nat.mul_assoc]; omega
theorem leN_snoc (l : List UInt8) (k : Nat) (hk : k < l.length) : leN (l.take (k + 1)) = leN (l.take k) + l[k].toNat * 2 ^ (8 * k) := by
  rw [List.take_succ_eq_append_getElem hk, leN_append]
  simp only [leN, List.length_take, Nat.min_eq_left (Nat.le_of_lt hk)]
  rw [Nat.mul_comm]; simp
theorem leB_succ (n v : Nat) : leB (n + 1) v = leB n v ++ [byteAt v n] := by simp [leB, List.range_succ]
theorem leN_leB : ∀ (n v : Nat), leN (leB n v) = v % 2 ^ (8 * n)
  | 0, v => by simp [leB, leN, Nat.mod_one]
  | n + 1, v => by
    rw [leB_succ, leN_append, leN_leB n v, leB_length]
    simp only [leN, byteAt, UInt8.toNat_ofNat']
    rw [show 8 * (n + 1) = 8 * n + 8 by omega, Nat.pow_add, Nat.mod_mul]
    simp
theorem leB_leN_mod (n v : Nat) (h : v < 2 ^ (8 * n)) : leN (leB n v) = v := by rw [leN_leB, Nat.mod_eq_of_lt h]
theorem byteAt_mod (v n j : Nat) (h : j < n) : byteAt (v % 2 ^ (8 * n)) j = byteAt v j := by
  unfold byteAt
  apply UInt8.toNat_inj.1
  simp only [UInt8.toNat_ofNat']
  rw [show n = j + 1 + (n - j - 1) by omega, show 8 * (j + 1 + (n - j - 1)) = 8 * j + (8 + 8 * (n - j - 1)) by omega, Nat.pow_add, Nat.mod_mul_right_div_self, Nat.pow_add, Nat.mod_mul_right_mod]
theorem leB_mod (n v : Nat) : leB n (v % 2 ^ (8 * n)) = leB n v := by
  unfold leB
  exact List.map_congr_left fun j hj => byteAt_mod v n j (by simpa using hj)
theorem leB_take {n m v : Nat} (h : n ≤ m) : (leB m v).take n = leB n v := by
  unfold leB
  rw [← List.map_take, List.take_range, Nat.min_eq_left h]
theorem leB_drop4 (v : Nat) : (leB 8 v).drop 4 = leB 4 (v / 2 ^ 32) := by
  have : ∀ j, byteAt (v / 2 ^ 32) j = byteAt v (4 + j) := by
    intro j
    unfold byteAt
    rw [Nat.div_div_eq_div_mul, ← Nat.pow_add, show 32 + 8 * j = 8 * (4 + j) by omega]
  simp [leB, List.range_succ, this]

end Go.Proofs.Ytippdkokbhejmaa
