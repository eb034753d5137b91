/-
  Bits and bytes turned, and the sum.
-/
import Derived.Test.YtippdkokbhejmaaPlain7
import Derived.Test.YtippdkokbhejmaaMem
namespace Go.Proofs.Ytippdkokbhejmaa
set_option linter.unusedVariables false
set_option linter.unusedSimpArgs false

theorem xor_bv (x y : UInt8) : iXor .u8 (x.toNat : Int) (y.toNat : Int) = ((x ^^^ y).toNat : Int) := by
  rw [iXor_nat u8s (by simpa [IntKind.bits] using x.toBitVec.isLt) (by simpa [IntKind.bits] using y.toBitVec.isLt), UInt8.toNat_xor]
theorem set_oneAt (l : List UInt8) (k : Nat) (hk : k < l.length) (x : UInt8) : l.set k (l[k] ^^^ x) = xorL l (oneAt l.length k x) := by
  apply List.ext_getElem
  · simp [xorL, oneAt_len x hk]
  · intro j h1 h2
    simp only [List.length_set] at h1
    rw [List.getElem_set]
    simp only [xorL, List.getElem_zipWith, oneAt]
    by_cases e : k = j
    · subst e; simp
    · rw [if_neg e]
      have : (List.replicate k (0 : UInt8) ++ x :: List.replicate (l.length - k - 1) 0)[j]'(by simp; omega) = 0 := by
        rw [List.getElem_append]
        split
        · simp
        · rename_i hj
          simp only [List.length_replicate] at hj
          rw [List.getElem_cons]
          rw [dif_neg (by simp; omega)]
          simp
      rw [this]; simp
theorem shl_bit : ∀ k : Fin 8, iShl .u8 (1 : Int) (k.val : Int) = (((1 <<< UInt8.ofNat k.val : UInt8)).toNat : Int) := by decide +kernel
theorem turn_val (x : UInt8) (b : Nat) (hb : b < 8) : Value.int .u8 (iXor .u8 (x.toNat : Int) (iShl .u8 (1 : Int) (b : Int))) = bv (x ^^^ (1 <<< UInt8.ofNat b)) := by
  rw [shl_bit ⟨b, hb⟩, xor_bv]; rfl
theorem map_set_bv (l : List UInt8) (k : Nat) (x : UInt8) : (l.map bv).set k (bv x) = (l.set k x).map bv := by simp [List.map_set]
/-- the sum where one bit is turned. -/
theorem crc_bit {l : List UInt8} {m : Nat} (hm : m < 8 * l.length) : crcV (l.set (m / 8) (l[m / 8]'(by omega) ^^^ (1 <<< UInt8.ofNat (m % 8)))) = crcV l ^^^ cpow (8 * l.length - m) 1#32 := by
  rw [set_oneAt l (m / 8) (by omega), xorL_self_diff _ _ (oneAt_len _ (by omega)), creg_bit _ _ _ (by omega)]
  congr 2
  omega
theorem bv_ne_of {w : Nat} {a b : BitVec w} (h : b ≠ 0#w) : a ^^^ b ≠ a := by
  intro e
  apply h
  have : a ^^^ (a ^^^ b) = a ^^^ a := by rw [e]
  rw [bxx] at this
  simpa using this
theorem crc_bit_ne {l : List UInt8} {m : Nat} (hm : m < 8 * l.length) : crcV (l.set (m / 8) (l[m / 8]'(by omega) ^^^ (1 <<< UInt8.ofNat (m % 8)))) ≠ crcV l := by
  rw [crc_bit hm]
  exact bv_ne_of fun h => by
    have := cpow_inj0 _ h
    exact absurd this (by decide)
theorem crc_two {l : List UInt8} {m n : Nat} (hm : m < 8 * l.length) (hn : n < 8 * l.length) (h200 : l.length ≤ 200) :
    let c := l.set (m / 8) (l[m / 8]'(by omega) ^^^ (1 <<< UInt8.ofNat (m % 8)))
    (crcV (c.set (n / 8) (c[n / 8]'(by simp [c]; omega) ^^^ (1 <<< UInt8.ofNat (n % 8)))) = crcV l ↔ m = n) := by
  intro c
  have hc : c.length = l.length := by simp [c]
  have e1 := crc_bit (l := c) (m := n) (by omega)
  rw [e1, hc, show crcV c = crcV l ^^^ cpow (8 * l.length - m) 1#32 from crc_bit hm, BitVec.xor_assoc]
  constructor
  · intro h
    by_cases hne : m = n
    · exact hne
    · exfalso
      refine bv_ne_of (a := crcV l) (fun h0 => ?_) h
      exact cpow_two (a := 8 * l.length - m) (b := 8 * l.length - n) (by omega) (by omega) (by omega) (xor_self_cancel h0)
  · rintro rfl; simp
theorem crc_byte_ne {l : List UInt8} {k : Nat} (hk : k < l.length) {x : UInt8} (hx : x ≠ 0) : crcV (l.set k (l[k] ^^^ x)) ≠ crcV l := by
  rw [set_oneAt l k hk, xorL_self_diff _ _ (oneAt_len _ hk)]
  exact bv_ne_of (creg_oneAt_ne hx)
theorem crcN_ne {a b : List UInt8} (h : crcV a ≠ crcV b) : ((crcN a : Int) != (crcN b : Int)) = true := by
  rw [bne_iff_ne]
  intro e
  exact h (BitVec.eq_of_toNat_eq (by unfold crcN at e; omega))

end Go.Proofs.Ytippdkokbhejmaa
