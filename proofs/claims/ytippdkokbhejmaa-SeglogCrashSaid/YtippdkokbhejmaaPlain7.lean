/-
  The check sum (chapter 7), as a plain function on bits: it is linear but for its beginning and its end; one bit, two bits, one byte turned give another sum.
-/
import Derived.Test.YtippdkokbhejmaaMem
namespace Go.Proofs.Ytippdkokbhejmaa
set_option linter.unusedVariables false
set_option linter.unusedSimpArgs false

def cpoly : BitVec 32 := 0x82f63b78#32
/-- one bit. -/
def cstep (r : BitVec 32) : BitVec 32 := (r >>> 1) ^^^ (if r.getLsbD 0 then cpoly else 0#32)
def cpow : Nat → BitVec 32 → BitVec 32
  | 0, r => r
  | n + 1, r => cpow n (cstep r)
def cbyte (r : BitVec 32) (c : UInt8) : BitVec 32 := cpow 8 (r ^^^ c.toBitVec.setWidth 32)
def creg (r : BitVec 32) (l : List UInt8) : BitVec 32 := l.foldl cbyte r
def cones : BitVec 32 := 0xffffffff#32
def crcV (l : List UInt8) : BitVec 32 := ~~~ creg cones l
/-- the sum. -/
def crcN (l : List UInt8) : Nat := (crcV l).toNat
theorem crcN_lt (l : List UInt8) : crcN l < 2 ^ 32 := (crcV l).isLt

theorem bxlc {w : Nat} (a b c : BitVec w) : a ^^^ (b ^^^ c) = b ^^^ (a ^^^ c) := by rw [← BitVec.xor_assoc, BitVec.xor_comm a b, BitVec.xor_assoc]
theorem bxx {w : Nat} (a b : BitVec w) : a ^^^ (a ^^^ b) = b := by rw [← BitVec.xor_assoc]; simp
theorem cstep_xor (a b : BitVec 32) : cstep (a ^^^ b) = cstep a ^^^ cstep b := by
  unfold cstep
  rw [BitVec.ushiftRight_xor_distrib, BitVec.getLsbD_xor]
  cases a.getLsbD 0 <;> cases b.getLsbD 0 <;> simp [BitVec.xor_assoc, BitVec.xor_comm, bxlc, bxx]
theorem cstep_zero : cstep 0#32 = 0#32 := by decide
theorem cpow_xor : ∀ (n : Nat) (a b : BitVec 32), cpow n (a ^^^ b) = cpow n a ^^^ cpow n b
  | 0, _, _ => rfl
  | n + 1, a, b => by simp only [cpow, cstep_xor, cpow_xor n]
theorem cpow_zero : ∀ n, cpow n 0#32 = 0#32
  | 0 => rfl
  | n + 1 => by simp only [cpow, cstep_zero, cpow_zero n]
theorem cpow_add : ∀ (n m : Nat) (r : BitVec 32), cpow (n + m) r = cpow m (cpow n r)
  | 0, m, r => by simp [cpow]
  | n + 1, m, r => by rw [show n + 1 + m = (n + m) + 1 by omega]; simp only [cpow]; exact cpow_add n m _
theorem cpow_succ (n : Nat) (r : BitVec 32) : cpow (n + 1) r = cstep (cpow n r) := cpow_add n 1 r
theorem xor_self_cancel {w : Nat} {a b : BitVec w} (h : a ^^^ b = 0#w) : a = b := by
  have : a ^^^ b ^^^ b = 0#w ^^^ b := by rw [h]
  simpa [BitVec.xor_assoc] using this
theorem cstep_inj0 {r : BitVec 32} (h : cstep r = 0#32) : r = 0#32 := by
  have h31 : (cstep r).getLsbD 31 = false := by rw [h]; simp
  unfold cstep at h h31
  rw [BitVec.getLsbD_xor] at h31
  have h0 : r.getLsbD 0 = false := by
    cases h0 : r.getLsbD 0 with
    | false => rfl
    | true => rw [h0] at h31; simp [cpoly] at h31
  rw [h0] at h
  simp at h
  apply BitVec.eq_of_getLsbD_eq
  intro i hi
  rcases Nat.eq_zero_or_pos i with rfl | hp
  · simpa using h0
  · have : (r >>> 1).getLsbD (i - 1) = false := by rw [h]; simp
    rw [BitVec.getLsbD_ushiftRight] at this
    rw [show 1 + (i - 1) = i by omega] at this
    simpa using this
theorem cpow_inj0 : ∀ (n : Nat) {r : BitVec 32}, cpow n r = 0#32 → r = 0#32
  | 0, _, h => h
  | n + 1, _, h => cstep_inj0 (cpow_inj0 n h)
theorem cpow_inj {n : Nat} {a b : BitVec 32} (h : cpow n a = cpow n b) : a = b := by
  apply xor_self_cancel
  apply cpow_inj0 n
  rw [cpow_xor, h]; simp

/-! ### linear in the bytes -/
def xorL (a b : List UInt8) : List UInt8 := List.zipWith (· ^^^ ·) a b
theorem cbyte_xor (r s : BitVec 32) (c d : UInt8) : cbyte (r ^^^ s) (c ^^^ d) = cbyte r c ^^^ cbyte s d := by
  unfold cbyte
  rw [← cpow_xor]
  congr 1
  rw [UInt8.toBitVec_xor, BitVec.setWidth_xor]
  simp [BitVec.xor_assoc, BitVec.xor_comm, bxlc, bxx]
theorem creg_xor : ∀ (a b : List UInt8) (r s : BitVec 32), a.length = b.length → creg (r ^^^ s) (xorL a b) = creg r a ^^^ creg s b
  | [], [], _, _, _ => rfl
  | x :: a, y :: b, r, s, h => by
    simp only [creg, xorL, List.zipWith_cons_cons, List.foldl_cons]
    rw [cbyte_xor]
    exact creg_xor a b _ _ (by simpa using h)
theorem creg_append (r : BitVec 32) (a b : List UInt8) : creg r (a ++ b) = creg (creg r a) b := by simp [creg]
theorem creg_zeros : ∀ (n : Nat) (r : BitVec 32), creg r (List.replicate n 0) = cpow (8 * n) r
  | 0, r => rfl
  | n + 1, r => by
    rw [List.replicate_succ]
    show creg (cbyte r 0) (List.replicate n 0) = _
    rw [creg_zeros n, show 8 * (n + 1) = 8 + 8 * n by omega, cpow_add]
    congr 1
    simp [cbyte]
theorem crc_xor3 (a b c : List UInt8) (h1 : b.length = a.length) (h2 : c.length = a.length) : crcV (xorL (xorL a b) c) = crcV a ^^^ crcV b ^^^ crcV c := by
  have e : creg cones (xorL (xorL a b) c) = creg cones a ^^^ creg cones b ^^^ creg cones c := by
    have e0 : cones = (cones ^^^ cones) ^^^ cones := by decide
    conv => lhs; rw [e0]
    rw [creg_xor _ _ _ _ (by simp [xorL, h1, h2]), creg_xor _ _ _ _ h1.symm]
  unfold crcV
  rw [e]
  apply BitVec.eq_of_getLsbD_eq
  intro i hi
  simp only [BitVec.getLsbD_not, BitVec.getLsbD_xor, hi, decide_true, Bool.true_and]
  cases (creg cones a).getLsbD i <;> cases (creg cones b).getLsbD i <;> cases (creg cones c).getLsbD i <;> rfl

/-! ### a row with its own sum behind it -/
theorem cpow8_shift : ∀ (k : Nat) (y : BitVec 32), y.toNat * 2 ^ k < 2 ^ 32 → cpow k (y <<< k) = y
  | 0, y, _ => by simp [cpow]
  | k + 1, y, h => by
    have h' : y.toNat * 2 ^ k < 2 ^ 32 := Nat.lt_of_le_of_lt (Nat.mul_le_mul_left _ (Nat.pow_le_pow_right (by omega) (by omega))) h
    rw [cpow]
    have : cstep (y <<< (k + 1)) = y <<< k := by
      unfold cstep
      have h0 : (y <<< (k + 1)).getLsbD 0 = false := by simp
      rw [h0]
      simp only [Bool.false_eq_true, if_false, BitVec.xor_zero]
      apply BitVec.eq_of_toNat_eq
      have e1 : (y <<< (k + 1)).toNat = y.toNat * 2 ^ (k + 1) := by
        rw [BitVec.toNat_shiftLeft, Nat.shiftLeft_eq, Nat.mod_eq_of_lt h]
      have e2 : (y <<< k).toNat = y.toNat * 2 ^ k := by
        rw [BitVec.toNat_shiftLeft, Nat.shiftLeft_eq, Nat.mod_eq_of_lt h']
      rw [BitVec.toNat_ushiftRight, e1, e2, Nat.shiftRight_eq_div_pow, Nat.pow_succ, ← Nat.mul_assoc]
      simp
    rw [this]
    exact cpow8_shift k y h'

theorem cpow_back (r y : BitVec 32) (k m : Nat) (h : y.toNat * 2 ^ k < 2 ^ 32) : cpow (k + m) (r ^^^ (y <<< k)) = cpow m (cpow k r ^^^ y) := by
  rw [cpow_add, cpow_xor, cpow8_shift k y h]
def leV (v : BitVec 32) : List UInt8 := [⟨v.setWidth 8⟩, ⟨(v >>> 8).setWidth 8⟩, ⟨(v >>> 16).setWidth 8⟩, ⟨(v >>> 24).setWidth 8⟩]
theorem byte_lt (x : BitVec 8) : (x.setWidth 32).toNat < 256 := by
  rw [BitVec.toNat_setWidth]; have := x.isLt; omega
theorem creg_leV (r v : BitVec 32) : creg r (leV v) = cpow 32 (r ^^^ v) := by
  have hv : v = (((v.setWidth 8).setWidth 32 ^^^ (((v >>> 8).setWidth 8).setWidth 32 <<< 8)) ^^^ (((v >>> 16).setWidth 8).setWidth 32 <<< 16)) ^^^ (((v >>> 24).setWidth 8).setWidth 32 <<< 24) := by
    apply BitVec.eq_of_getLsbD_eq
    intro i hi
    simp only [BitVec.getLsbD_xor, BitVec.getLsbD_shiftLeft, BitVec.getLsbD_setWidth, BitVec.getLsbD_ushiftRight]
    rcases Nat.lt_or_ge i 8 with h | h
    · simp [h, hi, show i < 16 by omega, show i < 24 by omega]
    · rcases Nat.lt_or_ge i 16 with h2 | h2
      · have e1 : ¬ i < 8 := by omega
        have e2 : i - 8 < 8 := by omega
        simp [e1, hi, e2, h2, show i < 24 by omega, show 8 + (i - 8) = i by omega, show i - 8 < 32 by omega]
      · rcases Nat.lt_or_ge i 24 with h3 | h3
        · have e1 : ¬ i < 8 := by omega
          have e2 : ¬ i - 8 < 8 := by omega
          have e3 : i - 16 < 8 := by omega
          simp [e1, hi, e2, e3, h3, show ¬ i < 16 by omega, show 16 + (i - 16) = i by omega, show i - 16 < 32 by omega]
        · have e1 : ¬ i < 8 := by omega
          have e2 : ¬ i - 8 < 8 := by omega
          have e3 : ¬ i - 16 < 8 := by omega
          have e4 : i - 24 < 8 := by omega
          simp [e1, hi, e2, e3, e4, show ¬ i < 24 by omega, show ¬ i < 16 by omega, show 24 + (i - 24) = i by omega, show i - 24 < 32 by omega]
  have b0 := byte_lt (v.setWidth 8)
  have b1 := byte_lt ((v >>> 8).setWidth 8)
  have b2 := byte_lt ((v >>> 16).setWidth 8)
  have b3 := byte_lt ((v >>> 24).setWidth 8)
  conv => rhs; rw [hv]
  simp only [← BitVec.xor_assoc]
  have p1 : ∀ r, cpow 32 r = cpow (24 + 8) r := fun _ => rfl
  have p2 : ∀ r, cpow 24 r = cpow (16 + 8) r := fun _ => rfl
  have p3 : ∀ r, cpow 16 r = cpow (8 + 8) r := fun _ => rfl
  rw [p1, cpow_back _ _ 24 8 (by omega), p2, cpow_back _ _ 16 8 (by omega), p3, cpow_back _ _ 8 8 (by omega)]
  rfl
theorem crc_ends (l : List UInt8) : crcV (l ++ leV (crcV l)) = crcV [0, 0, 0, 0] := by
  unfold crcV
  congr 1
  rw [creg_append, creg_leV]
  have e : creg cones l ^^^ ~~~ creg cones l = cones := by
    apply BitVec.eq_of_getLsbD_eq
    intro i hi
    simp only [BitVec.getLsbD_xor, BitVec.getLsbD_not, hi, decide_true, Bool.true_and]
    have hc : cones.getLsbD i = true := by
      rw [show cones = BitVec.allOnes 32 by decide, BitVec.getLsbD_allOnes]; simpa using hi
    rw [hc]
    cases (creg cones l).getLsbD i <;> rfl
  rw [e]
  exact (creg_zeros 4 cones).symm

/-! ### turned bits -/
theorem xorL_self_diff (a d : List UInt8) (h : d.length = a.length) : crcV (xorL a d) = crcV a ^^^ creg 0#32 d := by
  unfold crcV
  have : creg cones (xorL a d) = creg cones a ^^^ creg 0#32 d := by
    rw [← creg_xor _ _ _ _ h.symm]; simp
  rw [this]
  apply BitVec.eq_of_getLsbD_eq
  intro i hi
  simp only [BitVec.getLsbD_not, BitVec.getLsbD_xor, hi, decide_true, Bool.true_and]
  cases (creg cones a).getLsbD i <;> cases (creg 0#32 d).getLsbD i <;> rfl
/-- noughts but for one byte. -/
def oneAt (n k : Nat) (x : UInt8) : List UInt8 := List.replicate k 0 ++ x :: List.replicate (n - k - 1) 0
theorem oneAt_len {n k : Nat} (x : UInt8) (h : k < n) : (oneAt n k x).length = n := by simp [oneAt]; omega
theorem creg_oneAt (n k : Nat) (x : UInt8) : creg 0#32 (oneAt n k x) = cpow (8 * (n - k - 1) + 8) (x.toBitVec.setWidth 32) := by
  unfold oneAt
  rw [creg_append, creg_zeros, cpow_zero]
  show creg (cbyte 0#32 x) _ = _
  rw [creg_zeros, Nat.add_comm, cpow_add]
  simp [cbyte]
theorem creg_oneAt_ne {n k : Nat} {x : UInt8} (hx : x ≠ 0) : creg 0#32 (oneAt n k x) ≠ 0#32 := by
  rw [creg_oneAt]
  intro h
  have := cpow_inj0 _ h
  apply hx
  have h2 : (x.toBitVec.setWidth 32).toNat = 0 := by rw [this]; rfl
  rw [BitVec.toNat_setWidth] at h2
  have hlt := x.toBitVec.isLt
  have : x.toNat = 0 := by show x.toBitVec.toNat = 0; omega
  exact UInt8.toNat_inj.1 (by simpa using this)
/-- a bit of a byte, as so many steps of the one bit. -/
theorem bit_steps : ∀ k : Fin 8, ((1 <<< (UInt8.ofNat k.val) : UInt8).toBitVec.setWidth 32) = (1#32 <<< k.val) := by decide
theorem creg_bit (n k b : Nat) (hb : b < 8) : creg 0#32 (oneAt n k (1 <<< (UInt8.ofNat b))) = cpow (8 * (n - k - 1) + (8 - b)) 1#32 := by
  rw [creg_oneAt, bit_steps ⟨b, hb⟩]
  show cpow _ (1#32 <<< b) = _
  rw [show 8 * (n - k - 1) + 8 = b + (8 * (n - k - 1) + (8 - b)) by omega, cpow_add, cpow8_shift b 1#32 (by
    have : (2 : Nat) ^ b ≤ 2 ^ 7 := Nat.pow_le_pow_right (by omega) (by omega)
    show 1 * 2 ^ b < 2 ^ 32
    omega)]

/-- the steps as numbers, for the kernel. -/
def nstep (r : Nat) : Nat := (r / 2) ^^^ (if r % 2 = 1 then 2197175160 else 0)
def nloop : Nat → Nat → Bool
  | 0, _ => true
  | n + 1, r => (nstep r != 1) && nloop n (nstep r)
theorem nstep_eq (r : BitVec 32) : (cstep r).toNat = nstep r.toNat := by
  unfold cstep nstep
  rw [BitVec.toNat_xor, BitVec.toNat_ushiftRight, Nat.shiftRight_eq_div_pow]
  have : r.getLsbD 0 = decide (r.toNat % 2 = 1) := by
    rw [BitVec.getLsbD, Nat.testBit_zero]
  rw [this]
  by_cases h : r.toNat % 2 = 1
  · simp [h, cpoly]
  · simp [h]
theorem nloop_spec : ∀ (n : Nat) (r : BitVec 32), nloop n r.toNat = true → ∀ d, d < n → cpow (d + 1) r ≠ 1#32
  | 0, _, _, d, hd => by omega
  | n + 1, r, h, d, hd => by
    simp only [nloop, Bool.and_eq_true, bne_iff_ne, ne_eq] at h
    rw [← nstep_eq] at h
    cases d with
    | zero => intro e; exact h.1 (by show (cpow 1 r).toNat = 1; rw [e]; rfl)
    | succ d => exact nloop_spec n (cstep r) h.2 d (by omega)
theorem nloop_1600 : nloop 1700 1 = true := by decide +kernel
theorem cpow_one_ne {d : Nat} (h0 : 0 < d) (h : d ≤ 1700) : cpow d 1#32 ≠ 1#32 := by
  obtain ⟨e, rfl⟩ : ∃ e, d = e + 1 := ⟨d - 1, by omega⟩
  exact nloop_spec 1700 1#32 nloop_1600 e (by omega)
theorem cpow_two {a b : Nat} (hab : a ≠ b) (ha : a ≤ 1700) (hb : b ≤ 1700) : cpow a 1#32 ≠ cpow b 1#32 := by
  intro h
  rcases Nat.lt_or_gt_of_ne hab with hlt | hlt
  · rw [show b = (b - a) + a by omega, cpow_add] at h
    exact cpow_one_ne (d := b - a) (by omega) (by omega) (cpow_inj h).symm
  · rw [show a = (a - b) + b by omega, cpow_add] at h
    exact cpow_one_ne (d := a - b) (by omega) (by omega) (cpow_inj h)

end Go.Proofs.Ytippdkokbhejmaa
