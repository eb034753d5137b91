/-
  The model's arithmetic on natural numbers and on small integers, by plain laws.
-/
import Derived.Test.YtippdkokbhejmaaVc5
namespace Go.Proofs.Ytippdkokbhejmaa
set_option linter.unusedVariables false
set_option linter.unusedSimpArgs false

theorem iAdd64 {a b : Int} (h : -9223372036854775808 ≤ a + b ∧ a + b ≤ 9223372036854775807) : iAdd .i64 a b = a + b := IntWalk.i64_in _ h
theorem iSub64 {a b : Int} (h : -9223372036854775808 ≤ a - b ∧ a - b ≤ 9223372036854775807) : iSub .i64 a b = a - b := IntWalk.i64_in _ h
theorem iMul64 {a b : Int} (h : -9223372036854775808 ≤ a * b ∧ a * b ≤ 9223372036854775807) : iMul .i64 a b = a * b := IntWalk.i64_in _ h
theorem iConv64 {a : Int} (h : -9223372036854775808 ≤ a ∧ a ≤ 9223372036854775807) : iConv .i64 a = a := IntWalk.i64_in _ h
theorem iQuo64 {a b : Int} (h : -9223372036854775808 ≤ a ∧ a ≤ 9223372036854775807 ∧ 1 ≤ b) : iQuo .i64 a b = a.tdiv b := IntWalk.i64_quo' a b h
theorem iRem_nn {a b : Int} (h : 0 ≤ a) : iRem a b = a % b := IntWalk.rem_in a b h

def kn (k : IntKind) : Nat := 2 ^ k.bits
theorem wrap_nat {k : IntKind} (hk : k.signed = false) (n : Nat) : k.wrap (n : Int) = ((n % 2 ^ k.bits : Nat) : Int) := by
  simp only [IntKind.wrap, hk, Bool.false_and]
  simp
theorem iOr_nat {k : IntKind} (hk : k.signed = false) {a b : Nat} (ha : a < 2 ^ k.bits) (hb : b < 2 ^ k.bits) : iOr k a b = ((a ||| b : Nat) : Int) := by
  unfold iOr
  rw [BitVec.ofInt_natCast, BitVec.ofInt_natCast, BitVec.toNat_or, BitVec.toNat_ofNat, BitVec.toNat_ofNat, Nat.mod_eq_of_lt ha, Nat.mod_eq_of_lt hb, wrap_nat hk, Nat.mod_eq_of_lt (Nat.or_lt_two_pow ha hb)]
theorem iAnd_nat {k : IntKind} (hk : k.signed = false) {a b : Nat} (ha : a < 2 ^ k.bits) (hb : b < 2 ^ k.bits) : iAnd k a b = ((a &&& b : Nat) : Int) := by
  unfold iAnd
  rw [BitVec.ofInt_natCast, BitVec.ofInt_natCast, BitVec.toNat_and, BitVec.toNat_ofNat, BitVec.toNat_ofNat, Nat.mod_eq_of_lt ha, Nat.mod_eq_of_lt hb, wrap_nat hk, Nat.mod_eq_of_lt (Nat.and_lt_two_pow _ hb)]
theorem iXor_nat {k : IntKind} (hk : k.signed = false) {a b : Nat} (ha : a < 2 ^ k.bits) (hb : b < 2 ^ k.bits) : iXor k a b = ((a ^^^ b : Nat) : Int) := by
  unfold iXor
  rw [BitVec.ofInt_natCast, BitVec.ofInt_natCast, BitVec.toNat_xor, BitVec.toNat_ofNat, BitVec.toNat_ofNat, Nat.mod_eq_of_lt ha, Nat.mod_eq_of_lt hb, wrap_nat hk, Nat.mod_eq_of_lt (Nat.xor_lt_two_pow ha hb)]
theorem iConv_nat {k : IntKind} (hk : k.signed = false) (a : Nat) : iConv k a = ((a % 2 ^ k.bits : Nat) : Int) := wrap_nat hk a
theorem iShr_nat {k : IntKind} {a b : Nat} (hb : b ≤ k.bits) : iShr k a b = ((a / 2 ^ b : Nat) : Int) := by
  unfold iShr
  rw [Int.toNat_natCast, Nat.min_eq_left hb]
  rw [Int.fdiv_eq_ediv_of_nonneg _ (by exact_mod_cast Nat.zero_le _)]
  push_cast; rfl
theorem iShl_nat {k : IntKind} (hk : k.signed = false) {a b : Nat} (hb : b ≤ k.bits) : iShl k a b = ((a * 2 ^ b % 2 ^ k.bits : Nat) : Int) := by
  unfold iShl
  rw [Int.toNat_natCast, Nat.min_eq_left hb]
  rw [show (a : Int) * 2 ^ b = ((a * 2 ^ b : Nat) : Int) by push_cast; rfl, wrap_nat hk]

/-- a byte's cell. -/
def bv (x : UInt8) : Value := .int .u8 (x.toNat : Int)
theorem bv_inj {x y : UInt8} (h : bv x = bv y) : x = y := by
  have : (x.toNat : Int) = (y.toNat : Int) := by simpa [bv] using h
  exact UInt8.toNat_inj.1 (by omega)
theorem u8s : IntKind.u8.signed = false := rfl
theorem u32s : IntKind.u32.signed = false := rfl
theorem u64s : IntKind.u64.signed = false := rfl
theorem bv_conv (n : Nat) : Value.int .u8 (iConv .u8 (n : Int)) = bv (UInt8.ofNat n) := by
  rw [iConv_nat u8s]; simp [bv, IntKind.bits]

end Go.Proofs.Ytippdkokbhejmaa
