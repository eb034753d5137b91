/-
  Blocks as bytes: what decodes as what; what is none.
-/
import Derived.Test.YtippdkokbhejmaaFrame3
import Derived.Test.YtippdkokbhejmaaPlain7c
namespace Go.Proofs.Ytippdkokbhejmaa
set_option linter.unusedVariables false
set_option linter.unusedSimpArgs false

theorem encOf_take {pre : List UInt8} (h : pre.length ≤ 60) : (encOf pre).take 60 = covL pre := by
  unfold encOf; rw [List.take_append_of_le_length (by rw [covL_length h]; omega), List.take_of_length_le (by rw [covL_length h]; omega)]
theorem encOf_drop {pre : List UInt8} (h : pre.length ≤ 60) : (encOf pre).drop 60 = leB 4 (crcN (covL pre)) := by
  unfold encOf; exact List.drop_left' (covL_length h)
/-- what is written bears its sum. -/
def sumOk (q : List UInt8) : Prop := q.drop 60 = leB 4 (crcN (q.take 60))
theorem encOf_sumOk {pre : List UInt8} (h : pre.length ≤ 60) : sumOk (encOf pre) := by unfold sumOk; rw [encOf_take h, encOf_drop h]
theorem goodP_sumOk {q : List UInt8} (g : goodP q) : sumOk q := by
  obtain ⟨h1, _, h3⟩ := g
  have hb : (dB q).length ≤ dN q := by unfold dB; rw [List.length_take]; omega
  have hl := preL_length (dK q) (dE q) (dS q) (dL q) (dB q)
  rw [← h3]; exact encOf_sumOk (by omega)
theorem leB_inj {a b : Nat} (ha : a < 2 ^ 32) (hb : b < 2 ^ 32) (h : leB 4 a = leB 4 b) : a = b := by
  have := congrArg leN h
  rw [leN_leB, leN_leB, Nat.mod_eq_of_lt (by omega), Nat.mod_eq_of_lt (by omega)] at this
  exact this
theorem encL_good {k e s l : Nat} {bs : List UInt8} (ok : okB k e s l) (hb : bs.length ≤ 40) :
    let p := encOf (preL k e s l bs)
    goodP p ∧ dK p = k ∧ dE p = e ∧ dS p = s ∧ dL p = l ∧ dB p = bs := by
  intro p
  obtain ⟨o1, o2, o3, o4⟩ := ok
  have hp : p = [UInt8.ofNat k, UInt8.ofNat bs.length] ++ (leB 4 e ++ (leB 8 s ++ (leB 4 l ++ (bs ++ (List.replicate (60 - (preL k e s l bs).length) 0 ++ leB 4 (crcN (covL (preL k e s l bs)))))))) := by
    show covL _ ++ _ = _
    unfold covL preL
    simp only [List.append_assoc]
  have d2 : p.drop 2 = leB 4 e ++ (leB 8 s ++ (leB 4 l ++ (bs ++ (List.replicate (60 - (preL k e s l bs).length) 0 ++ leB 4 (crcN (covL (preL k e s l bs))))))) := by rw [hp]; rfl
  have d6 : p.drop 6 = leB 8 s ++ (leB 4 l ++ (bs ++ (List.replicate (60 - (preL k e s l bs).length) 0 ++ leB 4 (crcN (covL (preL k e s l bs)))))) := by
    rw [show 6 = 2 + 4 by rfl, ← List.drop_drop, d2]; exact List.drop_left' (leB_length 4 e)
  have d14 : p.drop 14 = leB 4 l ++ (bs ++ (List.replicate (60 - (preL k e s l bs).length) 0 ++ leB 4 (crcN (covL (preL k e s l bs))))) := by
    rw [show 14 = 6 + 8 by rfl, ← List.drop_drop, d6]; exact List.drop_left' (leB_length 8 s)
  have d18 : p.drop 18 = bs ++ (List.replicate (60 - (preL k e s l bs).length) 0 ++ leB 4 (crcN (covL (preL k e s l bs)))) := by
    rw [show 18 = 14 + 4 by rfl, ← List.drop_drop, d14]; exact List.drop_left' (leB_length 4 l)
  have k0 : dK p = k := by
    unfold dK; rw [hp]; show (UInt8.ofNat k).toNat = k
    rw [UInt8.toNat_ofNat']; omega
  have n0 : dN p = bs.length := by
    unfold dN; rw [hp]; show (UInt8.ofNat bs.length).toNat = bs.length
    rw [UInt8.toNat_ofNat']; omega
  have e0 : dE p = e := by
    unfold dE; rw [d2, List.take_left' (leB_length 4 e), leN_leB]; omega
  have s0 : dS p = s := by
    unfold dS; rw [d6, List.take_left' (leB_length 8 s), leN_leB]; omega
  have l0 : dL p = l := by
    unfold dL; rw [d14, List.take_left' (leB_length 4 l), leN_leB]; omega
  have b0 : dB p = bs := by
    unfold dB; rw [d18, n0, List.take_left' rfl]
  refine ⟨⟨by omega, ?_, ?_⟩, k0, e0, s0, l0, b0⟩
  · rw [k0, e0, s0, l0]; exact ⟨o1, o2, o3, o4⟩
  · rw [k0, e0, s0, l0, b0]
theorem sum_ne {a b : List UInt8} (h : leB 4 (crcN a) = leB 4 (crcN b)) : crcV a = crcV b := by
  have := leB_inj (crcN_lt a) (crcN_lt b) h
  exact BitVec.eq_of_toNat_eq this
theorem bit_ne : ∀ b : Fin 8, (1 <<< UInt8.ofNat b.val : UInt8).toBitVec ≠ 0#8 := by decide
theorem xor_ne {x y : UInt8} (h : y.toBitVec ≠ 0#8) : x ^^^ y ≠ x := fun e => by
  have := congrArg UInt8.toBitVec e
  rw [UInt8.toBitVec_xor] at this
  exact bv_ne_of h this
/-- one bit turned. -/
theorem flip_bad {q : List UInt8} (h64 : q.length = 64) (ok : sumOk q) {m : Nat} (hm : m < 512) : ¬ goodP (q.set (m / 8) (q[m / 8]'(by omega) ^^^ (1 <<< UInt8.ofNat (m % 8)))) := by
  intro g
  have g' := goodP_sumOk g
  unfold sumOk at g' ok
  rcases Nat.lt_or_ge m 480 with h | h
  · rw [List.drop_set_of_lt (by omega), List.take_set, ok] at g'
    have hl : (q.take 60).length = 60 := by simp [h64]
    have e := crc_bit_ne (l := q.take 60) (m := m) (by omega)
    have hg : (q.take 60)[m / 8]'(by omega) = q[m / 8]'(by omega) := List.getElem_take
    rw [hg] at e
    exact e (sum_ne g').symm
  · rw [List.take_set_of_le (by omega), ← ok] at g'
    have hi : m / 8 < q.length := by omega
    have e := congrArg (fun l => l[m / 8 - 60]?) g'
    simp only [List.getElem?_drop] at e
    rw [show 60 + (m / 8 - 60) = m / 8 by omega, List.getElem?_set_self hi, List.getElem?_eq_getElem hi] at e
    exact xor_ne (bit_ne ⟨m % 8, by omega⟩) (Option.some.inj e)
/-- the end turned. -/
def tornL (q : List UInt8) : List UInt8 := q.take 32 ++ (q.drop 32).map (· ^^^ 85)
def tornM : List UInt8 := List.replicate 32 0 ++ List.replicate 28 85
theorem tornM_ne : creg 0#32 tornM ≠ 0x55555555#32 := by decide +kernel
theorem byteAt_xor (a c : Nat) (j : Nat) : byteAt (a ^^^ c) j = byteAt a j ^^^ byteAt c j := by
  apply UInt8.toNat_inj.1
  unfold byteAt
  rw [UInt8.toNat_xor, UInt8.toNat_ofNat', UInt8.toNat_ofNat', UInt8.toNat_ofNat', ← Nat.shiftRight_eq_div_pow, ← Nat.shiftRight_eq_div_pow, ← Nat.shiftRight_eq_div_pow, Nat.shiftRight_xor_distrib, Nat.xor_mod_two_pow]
theorem leB_xor55 (a : BitVec 32) : (leB 4 a.toNat).map (· ^^^ 85) = leB 4 (a ^^^ 0x55555555#32).toNat := by
  rw [BitVec.toNat_xor]
  have c : ∀ j : Fin 4, byteAt (0x55555555#32).toNat j.val = 85 := by decide
  have f : ∀ j, j < 4 → byteAt (a.toNat ^^^ (0x55555555#32).toNat) j = byteAt a.toNat j ^^^ 85 := fun j hj => by rw [byteAt_xor, c ⟨j, hj⟩]
  show [byteAt a.toNat 0 ^^^ 85, byteAt a.toNat 1 ^^^ 85, byteAt a.toNat 2 ^^^ 85, byteAt a.toNat 3 ^^^ 85] = [byteAt _ 0, byteAt _ 1, byteAt _ 2, byteAt _ 3]
  rw [f 0 (by omega), f 1 (by omega), f 2 (by omega), f 3 (by omega)]
theorem torn_take {q : List UInt8} (h64 : q.length = 64) : (tornL q).take 60 = xorL (q.take 60) tornM := by
  apply List.ext_getElem
  · simp [tornL, xorL, tornM, h64]
  · intro j h1 h2
    have hj : j < 60 := by simp [tornL, h64] at h1; omega
    simp only [xorL, List.getElem_zipWith, List.getElem_take, tornL, tornM]
    rw [List.getElem_append, List.getElem_append]
    simp only [List.length_take, h64, List.length_replicate]
    by_cases h : j < 32
    · rw [dif_pos (by omega), dif_pos h, List.getElem_replicate, List.getElem_take, UInt8.xor_zero]
    · rw [dif_neg (by omega), dif_neg h, List.getElem_replicate, List.getElem_map, List.getElem_drop]
      have : ∀ (a b : Nat) (ha : a < q.length) (hb : b < q.length), a = b → q[a] = q[b] := fun a b _ _ e => by subst e; rfl
      rw [this _ j (by omega) (by omega) (by omega)]
theorem torn_drop {q : List UInt8} (h64 : q.length = 64) : (tornL q).drop 60 = (q.drop 60).map (· ^^^ 85) := by
  unfold tornL
  rw [List.drop_append, List.drop_eq_nil_of_le (by simp [h64]), List.nil_append, ← List.map_drop, List.drop_drop]
  simp [h64]
theorem torn_bad {q : List UInt8} (h64 : q.length = 64) (ok : sumOk q) : ¬ goodP (tornL q) := by
  intro g
  have g' := goodP_sumOk g
  unfold sumOk at g' ok
  rw [torn_take h64, torn_drop h64, ok] at g'
  have hx := xorL_self_diff (q.take 60) tornM (by simp [tornM, h64])
  unfold crcN at g'
  rw [hx, leB_xor55] at g'
  have e := leB_inj (BitVec.isLt _) (BitVec.isLt _) g'
  have e2 := BitVec.eq_of_toNat_eq e
  have : crcV (q.take 60) ^^^ (crcV (q.take 60) ^^^ 0x55555555#32) = crcV (q.take 60) ^^^ (crcV (q.take 60) ^^^ creg 0#32 tornM) := by rw [e2]
  rw [bxx, bxx] at this
  exact tornM_ne this.symm

end Go.Proofs.Ytippdkokbhejmaa
