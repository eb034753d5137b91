/-
  crc and its reference: contracts.
-/
import Derived.Test.YtippdkokbhejmaaG
import Derived.Test.YtippdkokbhejmaaPlain7
namespace Go.Proofs.Ytippdkokbhejmaa
set_option linter.unusedVariables false
set_option linter.unusedSimpArgs false

theorem crc_nat (n : Nat) : iXor .u32 (iShr .u32 (n : Int) (1 : Int)) (iAnd .u32 (2197175160 : Int) (iNeg .u32 (iAnd .u32 (n : Int) (1 : Int)))) = ((nstep n : Nat) : Int) ∨ 2 ^ 32 ≤ n := by
  rcases Nat.lt_or_ge n (2 ^ 32) with hn | hn
  · left
    have e1 : (1 : Int) = ((1 : Nat) : Int) := rfl
    have ep : (2197175160 : Int) = ((2197175160 : Nat) : Int) := rfl
    have es : iShr .u32 (n : Int) (1 : Int) = ((n / 2 : Nat) : Int) := iShr_nat (k := .u32) (b := 1) (by simp [IntKind.bits])
    have ea : iAnd .u32 (n : Int) (1 : Int) = ((n % 2 : Nat) : Int) := by
      rw [e1, iAnd_nat u32s (by simpa [IntKind.bits] using hn) (by simp [IntKind.bits]), Nat.and_one_is_mod]
    rw [es, ea]
    have hm : n % 2 = 0 ∨ n % 2 = 1 := by omega
    unfold nstep
    rcases hm with h | h
    · rw [h]
      have : iAnd .u32 (2197175160 : Int) (iNeg .u32 ((0 : Nat) : Int)) = ((0 : Nat) : Int) := by decide
      rw [this, iXor_nat u32s (by simp only [IntKind.bits]; omega) (by simp [IntKind.bits])]
      simp
    · rw [h]
      have : iAnd .u32 (2197175160 : Int) (iNeg .u32 ((1 : Nat) : Int)) = ((2197175160 : Nat) : Int) := by decide
      rw [this, iXor_nat u32s (by simp only [IntKind.bits]; omega) (by simp [IntKind.bits])]
      simp
  · exact .inr hn
theorem crc_bv (r : BitVec 32) : iXor .u32 (iShr .u32 (r.toNat : Int) (1 : Int)) (iAnd .u32 (2197175160 : Int) (iNeg .u32 (iAnd .u32 (r.toNat : Int) (1 : Int)))) = ((cstep r).toNat : Int) := by
  rcases crc_nat r.toNat with h | h
  · rw [h, nstep_eq]
  · have := r.isLt; omega
theorem not_bv (r : BitVec 32) : iNot .u32 (r.toNat : Int) = ((~~~ r).toNat : Int) := by
  unfold iNot
  have e : (if IntKind.u32.signed then (-1 : Int) else IntKind.u32.max) = ((4294967295 : Nat) : Int) := by decide
  rw [e, iXor_nat u32s (by simp [IntKind.bits]) (by simpa [IntKind.bits] using r.isLt)]
  rw [BitVec.toNat_not]
  have h : 4294967295 ^^^ r.toNat = (BitVec.allOnes 32 ^^^ r).toNat := by rw [BitVec.toNat_xor]; rfl
  rw [h, BitVec.allOnes_xor, BitVec.toNat_not]
theorem xor_byte (r : BitVec 32) (c : UInt8) : iXor .u32 (r.toNat : Int) (iConv .u32 (c.toNat : Int)) = ((r ^^^ c.toBitVec.setWidth 32).toNat : Int) := by
  have hc : c.toNat < 256 := c.toBitVec.isLt
  rw [iConv_nat u32s, Nat.mod_eq_of_lt (by simp only [IntKind.bits]; omega), iXor_nat u32s (by simpa [IntKind.bits] using r.isLt) (by simp only [IntKind.bits]; omega)]
  rw [BitVec.toNat_xor, BitVec.toNat_setWidth]
  congr 2
  show c.toNat = c.toBitVec.toNat % 2 ^ 32
  rw [Nat.mod_eq_of_lt (by have := c.toBitVec.isLt; omega)]; rfl
theorem creg_snoc (r : BitVec 32) (l : List UInt8) (k : Nat) (hk : k < l.length) : creg r (l.take (k + 1)) = cpow 8 (creg r (l.take k) ^^^ l[k].toBitVec.setWidth 32) := by
  rw [List.take_succ_eq_append_getElem hk, creg_append]; rfl

/-- bytes taken in. -/
theorem crcAdd_spec {h : Hp} {a : Addr} {t : BitVec 32} {s : Sl} {l : List UInt8} (hc : hcell h a = some (.int .u32 (t.toNat : Int))) (hf : hfroz h a = false) (hl : l.length = s.len) (hr : RdC h s.base (l.map bv)) (hmax : l.length < 9223372036854775807) :
    HCalls Try.prog fn_crc_Sum_Add #[.pointer (some a), .slice s.base s.len s.cap] h fun r h' => r = .pointer (some a) ∧ h' = hset h a (.int .u32 ((~~~ creg (~~~ t) l).toNat : Int)) := by
  apply crc_Sum_Add_vc
  unfold vccrc_Sum_Add
  refine IfB.no rfl ⟨a, rfl, _, hc, ?_⟩
  refine ⟨fun r i m h' => h = h' ∧ ∃ k : Nat, i = k ∧ m + k = l.length ∧ r = ((creg (~~~ t) (l.take k)).toNat : Int), l.length, ⟨rfl, 0, rfl, rfl, not_bv t⟩, ?_⟩
  rintro _ _ _ m _ ⟨rfl, k, rfl, hm, rfl⟩
  refine IfB.dec (fun hlt => ?_) (fun hge => ?_)
  · have hk : k < l.length := by omega
    refine ixB hr hl k rfl hk ?_
    rw [xor_byte]
    refine ⟨fun r i m h' => h = h' ∧ ∃ j : Nat, i = j ∧ m + j = 8 ∧ r = ((cpow j (creg (~~~ t) (l.take k) ^^^ l[k].toBitVec.setWidth 32)).toNat : Int), 8, ⟨rfl, 0, rfl, rfl, rfl⟩, ?_⟩
    rintro _ _ _ m' _ ⟨rfl, j, rfl, hj, rfl⟩
    refine IfB.dec (fun h8 => ?_) (fun h8 => ?_)
    · refine ⟨by omega, m' - 1, by omega, rfl, j + 1, ?_, by omega, ?_⟩
      · rw [iAdd64 (by omega)]; push_cast; rfl
      · rw [crc_bv, cpow_succ]
    · obtain rfl : j = 8 := by omega
      refine ⟨m - 1, by omega, rfl, k + 1, ?_, by omega, ?_⟩
      · rw [iAdd64 (by omega)]; push_cast; rfl
      · rw [creg_snoc _ _ _ hk]
  · obtain rfl : k = l.length := by omega
    refine ⟨a, rfl, ⟨by rw [hc]; rfl, hf⟩, rfl, ?_⟩
    rw [List.take_length, not_bv]
theorem crcValue_spec {h : Hp} {a : Addr} {n : Int} (hc : hcell h a = some (.int .u32 n)) : HCalls Try.prog fn_crc_Sum_Value #[.pointer (some a)] h fun r h' => r = .int .u32 n ∧ h' = h := by
  apply crc_Sum_Value_vc
  unfold vccrc_Sum_Value
  exact IfB.no rfl ⟨a, rfl, _, hc, rfl, rfl⟩
theorem crcNew_spec (h : Hp) : HCalls Try.prog fn_crc_New #[] h fun r h' => ∃ t, r = .pointer (some (nw h)) ∧ h' = alc h [.int .u32 (0 : Int)] t := by
  apply crc_New_vc
  unfold vccrc_New
  exact ⟨_, rfl, rfl⟩
theorem alc_cell (h : Hp) (v : Value) (t : Nat) : hcell (alc h [v] t) (nw h) = some v := by unfold nw; rw [hcell_blk (alc_new h [v] t)]; rfl
theorem alc_froz (h : Hp) (l : List Value) (t : Nat) : hfroz (alc h l t) (nw h) = false := by unfold nw; exact hfroz_blk (alc_new h l t) _
theorem hset_cell {h : Hp} {b o : Nat} {c : Array Value} {e : Nat} {f : Nat × Nat} (hb : h[b]? = some (.cells c e f)) (ho : o < c.size) (v : Value) : hcell (hset h ⟨b, o, none⟩ v) ⟨b, o, none⟩ = some v := by
  rw [hcell_blk (hset_blk hb o v)]; simp [ho]

/-- the sum of bytes. -/
theorem crcOf_spec {h : Hp} {s : Sl} {l : List UInt8} (hl : l.length = s.len) (hr : RdC h s.base (l.map bv)) (hmax : l.length < 9223372036854775807) :
    HCalls Try.prog fn_crc_Of #[.slice s.base s.len s.cap] h fun r h' => r = .int .u32 (crcN l : Int) ∧ Ext h h' := by
  apply crc_Of_vc
  unfold vccrc_Of
  refine (crcNew_spec h).mono ?_
  rintro _ _ ⟨t, rfl, rfl⟩
  refine ⟨_, rfl, ?_⟩
  refine (crcAdd_spec (t := 0#32) (alc_cell _ _ _) (alc_froz _ _ _) hl (hr.ext (alc_ext _ _ _)) hmax).mono ?_
  rintro _ _ ⟨rfl, rfl⟩
  refine ⟨_, rfl, ?_⟩
  refine (crcValue_spec (n := ((~~~ creg (~~~ 0#32) l).toNat : Int)) (hset_cell (alc_new _ _ _) (by simp) _)).mono ?_
  rintro _ _ ⟨rfl, rfl⟩
  refine ⟨_, rfl, rfl, Keep.ext (((alc_ext _ _ _).toKeep).hset _ (Nat.le_refl _))⟩
end Go.Proofs.Ytippdkokbhejmaa
