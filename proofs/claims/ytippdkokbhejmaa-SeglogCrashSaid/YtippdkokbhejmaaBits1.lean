/-
  bits.get, Get32, Get64.
-/
import Derived.Test.YtippdkokbhejmaaBits0
import Derived.Test.YtippdkokbhejmaaPlain6b
namespace Go.Proofs.Ytippdkokbhejmaa
set_option linter.unusedVariables false
set_option linter.unusedSimpArgs false

/-- the number of so many bytes. -/
def getR (n : Nat) (l : List UInt8) : Nat × Bool := if l.length < n then (0, false) else (leN (l.take n), true)
theorem get_spec {h : Hp} {s : Sl} {l : List UInt8} {n : Nat} (hn : n ≤ 8) (hr : Rd 1 h s (l.map bv)) :
    HCalls Try.prog fn_bits_get #[.slice s.base s.len s.cap, .int .i64 (n : Int)] h fun r h' => r = .tuple #[.int .u64 ((getR n l).1 : Int), .bool (getR n l).2] ∧ h' = h := by
  apply bits_get_vc
  unfold vcbits_get
  have hl := hr.lenB
  refine IfB.dec (fun hlt => ?_) (fun hge => ?_)
  · unfold getR; rw [if_pos (by omega)]; exact ⟨rfl, rfl⟩
  have hnl : n ≤ l.length := by omega
  refine ⟨fun v i m h' => h = h' ∧ ∃ k : Nat, i = k ∧ v = (leN (l.take k) : Int) ∧ m + k = n, n, ⟨rfl, 0, rfl, rfl, rfl⟩, ?_⟩
  rintro _ _ _ m _ ⟨rfl, k, rfl, rfl, hm⟩
  refine IfB.dec (fun hlt => ?_) (fun hge' => ?_)
  · have hk : k < l.length := by omega
    refine ixB hr.rd hl k rfl hk ?_
    have e8 : iMul .i64 (8 : Int) (k : Int) = ((8 * k : Nat) : Int) := by rw [iMul64 (by omega)]; push_cast; rfl
    have hc : l[k].toNat < 256 := l[k].toBitVec.isLt
    have hlt1 := leN_lt (l.take k)
    rw [List.length_take, Nat.min_eq_left (by omega)] at hlt1
    have hlt2 := leN_lt (l.take (k + 1))
    rw [List.length_take, Nat.min_eq_left (by omega), leN_snoc l k hk] at hlt2
    have hp : 2 ^ (8 * (k + 1)) ≤ 2 ^ 64 := Nat.pow_le_pow_right (by omega) (by omega)
    have hp2 : 2 ^ (8 * k) ≤ 2 ^ 64 := Nat.pow_le_pow_right (by omega) (by omega)
    have ec : iConv .u64 (l[k].toNat : Int) = (l[k].toNat : Int) := by rw [iConv_nat u64s, Nat.mod_eq_of_lt (by simp only [IntKind.bits]; omega)]
    rw [e8, ec, iShl_nat u64s (by simp only [IntKind.bits]; omega), Nat.mod_eq_of_lt (by simp only [IntKind.bits]; omega), iOr_nat u64s (by simp only [IntKind.bits]; omega) (by simp only [IntKind.bits]; omega), or_add hlt1]
    refine ⟨by omega, m - 1, by omega, rfl, k + 1, ?_, ?_, by omega⟩
    · rw [iAdd64 (by omega)]; push_cast; rfl
    · rw [leN_snoc l k hk]
  · obtain rfl : k = n := by omega
    unfold getR; rw [if_neg (by omega)]; exact ⟨rfl, rfl⟩
theorem Get64_spec {h : Hp} {s : Sl} {l : List UInt8} (hr : Rd 1 h s (l.map bv)) :
    HCalls Try.prog fn_bits_Get64 #[.slice s.base s.len s.cap] h fun r h' => r = .tuple #[.int .u64 ((getR 8 l).1 : Int), .bool (getR 8 l).2] ∧ h' = h := by
  apply bits_Get64_vc
  unfold vcbits_Get64
  refine (get_spec (n := 8) (by omega) hr).mono ?_
  rintro _ _ ⟨rfl, rfl⟩
  exact ⟨_, _, rfl, rfl, rfl⟩
theorem getR_lt (n : Nat) (l : List UInt8) : (getR n l).1 < 2 ^ (8 * n) := by
  unfold getR
  split
  · exact Nat.two_pow_pos _
  · have := leN_lt (l.take n)
    rw [List.length_take, Nat.min_eq_left (by omega)] at this
    exact this
theorem Get32_spec {h : Hp} {s : Sl} {l : List UInt8} (hr : Rd 1 h s (l.map bv)) :
    HCalls Try.prog fn_bits_Get32 #[.slice s.base s.len s.cap] h fun r h' => r = .tuple #[.int .u32 ((getR 4 l).1 : Int), .bool (getR 4 l).2] ∧ h' = h := by
  apply bits_Get32_vc
  unfold vcbits_Get32
  refine (get_spec (n := 4) (by omega) hr).mono ?_
  rintro _ _ ⟨rfl, rfl⟩
  have := getR_lt 4 l
  have e : iConv .u32 ((getR 4 l).1 : Int) = ((getR 4 l).1 : Int) := by rw [iConv_nat u32s, Nat.mod_eq_of_lt (by simp only [IntKind.bits]; omega)]
  refine ⟨_, _, rfl, ?_, rfl⟩
  rw [e]

end Go.Proofs.Ytippdkokbhejmaa
