/-
  bits.put, Put32, Put64.
-/
import Derived.Test.YtippdkokbhejmaaG
import Derived.Test.YtippdkokbhejmaaPlain6
namespace Go.Proofs.Ytippdkokbhejmaa
set_option linter.unusedVariables false
set_option linter.unusedSimpArgs false

/-- the call makes a row of bytes of its own, and leaves all that was there. -/
def NewB (h : Hp) (l : List UInt8) (r : Value) (h' : Hp) : Prop := ∃ s : Sl, r = .slice s.base s.len s.cap ∧ Own h.size 1 h' s (l.map bv) ∧ s.len = l.length ∧ Ext h h'

theorem put_spec (v n : Nat) (hv : v < 2 ^ 64) (hn : n ≤ 8) (h : Hp) : HCalls Try.prog fn_bits_put #[.int .u64 (v : Int), .int .i64 (n : Int)] h (NewB h (leB n v)) := by
  apply bits_put_vc
  unfold vcbits_put
  refine MkC_own (by omega) (by omega) ?_
  have h0 : Own h.size 1 (alc h (List.replicate n (.int .u8 (0 : Int))) _) ⟨some (nw h), n, n⟩ (List.replicate n (.int .u8 (0 : Int))) := Own.alc h _ 5 n 1 (by simp)
  refine ⟨fun i m h' => ∃ (k : Nat) (l : List Value), i = k ∧ m + k = n ∧ Own h.size 1 h' ⟨some (nw h), n, n⟩ l ∧ l.length = n ∧ Keep h.size h h' ∧ ∀ j, j < k → l[j]? = some (bv (byteAt v j)), n, ⟨0, _, rfl, by omega, h0, by simp, ((alc_ext _ _ _).toKeep), fun j hj => by omega⟩, ?_⟩
  rintro _ _ m h' ⟨k, l, rfl, hk, ho, hl, hkp, hj⟩
  refine IfB.dec (fun hlt => ?_) (fun hge => ?_)
  · have hlt' : k < n := by have : (k : Int) < (n : Int) := hlt; omega
    have e8 : iMul .i64 (8 : Int) (k : Int) = ((8 * k : Nat) : Int) := by rw [iMul64 (by omega)]; push_cast; rfl
    rw [e8]
    refine ⟨by omega, nw h, rfl, by omega, by simpa using hlt', ?_⟩
    have e1 : ((k : Int).toNat * 1) = k := by simp
    rw [e1]
    rw [iShr_nat (k := .u64) (b := 8 * k) (by simp [IntKind.bits]; omega), bv_conv]
    obtain ⟨g1, g2, g3, _, _⟩ := ho.set (a := nw h) rfl (k := k) (by omega) (bv (byteAt v k))
    refine ⟨g1, m - 1, by omega, k + 1, _, ?_, by omega, g2, by simpa using hl, hkp.trans g3, fun j hjk => ?_⟩
    · rw [iAdd64 (by omega)]; push_cast; rfl
    · rw [List.getElem?_set]
      by_cases e : k = j
      · subst e; simp [hl, hlt']
      · rw [if_neg e]; exact hj j (by omega)
  · obtain rfl : k = n := by have : ¬ (k : Int) < (n : Int) := hge; omega
    refine ⟨_, rfl, ?_, by simp [leB_length], hkp.ext⟩
    have : l = (leB k v).map bv := by
      apply List.ext_getElem?
      intro j
      by_cases hjk : j < k
      · rw [hj j hjk, List.getElem?_map, leB_get hjk]; rfl
      · rw [List.getElem?_eq_none (by omega), List.getElem?_eq_none (by simp [leB_length]; omega)]
    rw [← this]; exact ho

theorem NewB.imp {h : Hp} {l l' : List UInt8} (e : l = l') {r : Value} {h' : Hp} (H : NewB h l r h') : NewB h l' r h' := e ▸ H
theorem Put32_spec (v : Nat) (hv : v < 2 ^ 32) (h : Hp) : HCalls Try.prog fn_bits_Put32 #[.int .u32 (v : Int)] h (NewB h (leB 4 v)) := by
  apply bits_Put32_vc
  unfold vcbits_Put32
  have e : iConv .u64 (v : Int) = v := by rw [iConv_nat u64s, Nat.mod_eq_of_lt (by simp only [IntKind.bits]; omega)]
  rw [e]
  refine (put_spec v 4 (by omega) (by omega) h).mono ?_
  rintro r h' ⟨s, rfl, h1⟩
  exact ⟨s, rfl, s, rfl, h1⟩
theorem Put64_spec (v : Nat) (hv : v < 2 ^ 64) (h : Hp) : HCalls Try.prog fn_bits_Put64 #[.int .u64 (v : Int)] h (NewB h (leB 8 v)) := by
  apply bits_Put64_vc
  unfold vcbits_Put64
  refine (put_spec v 8 (by omega) (by omega) h).mono ?_
  rintro r h' ⟨s, rfl, h1⟩
  exact ⟨s, rfl, s, rfl, h1⟩

end Go.Proofs.Ytippdkokbhejmaa
