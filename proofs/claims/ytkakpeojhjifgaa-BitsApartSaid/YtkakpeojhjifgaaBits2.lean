/-
  Reading numbers (chapter 6), and the document's own functions: contracts.
-/
import Derived.Test.YtkakpeojhjifgaaBits
import Derived.Test.YtkakpeojhjifgaaPlain6b
namespace Go.Proofs.Ytkakpeojhjifgaa
set_option linter.unusedVariables false
set_option linter.unusedSimpArgs false

theorem dig_eval {v k : Nat} {c : UInt8} (hv : v < 2 ^ 64) (hk : k ≤ 9) :
    iOr .u64 (v : Int) (iShl .u64 (iConv .u64 (iAnd .u8 (c.toNat : Int) (127 : Int))) (iMul .i64 (7 : Int) (k : Int))) = ((dig v c k : Nat) : Int) ∧ dig v c k < 2 ^ 64 := by
  have hc : c.toNat < 256 := c.toBitVec.isLt
  have e1 : iAnd .u8 (c.toNat : Int) (127 : Int) = ((c.toNat % 128 : Nat) : Int) := by
    rw [show (127 : Int) = ((127 : Nat) : Int) by rfl, iAnd_nat u8s (by simpa [IntKind.bits] using hc) (by simp [IntKind.bits])]
    rw [show (127 : Nat) = 2 ^ 7 - 1 by rfl, Nat.and_two_pow_sub_one_eq_mod]
  have e2 : iConv .u64 ((c.toNat % 128 : Nat) : Int) = ((c.toNat % 128 : Nat) : Int) := by rw [iConv_nat u64s, Nat.mod_eq_of_lt (by simp only [IntKind.bits]; omega)]
  have e3 : iMul .i64 (7 : Int) (k : Int) = ((7 * k : Nat) : Int) := by rw [iMul64 (by omega)]; push_cast; rfl
  have hm : (c.toNat % 128) * 2 ^ (7 * k) % 2 ^ 64 < 2 ^ 64 := Nat.mod_lt _ (by omega)
  rw [e1, e2, e3, iShl_nat u64s (by simp only [IntKind.bits]; omega), iOr_nat u64s (by simpa [IntKind.bits] using hv) (by simpa [IntKind.bits] using hm)]
  exact ⟨rfl, Nat.or_lt_two_pow hv hm⟩
theorem Unvarint_spec {h : Hp} {s : Sl} {l : List UInt8} (hr : Rd 1 h s (l.map bv)) (hmax : l.length < 9223372036854775807) :
    HCalls Try.prog fn_bits_Unvarint #[.slice s.base s.len s.cap] h fun r h' => r = .tuple #[.int .u64 ((unvarL 0 0 l).1 : Int), .int .i64 ((unvarL 0 0 l).2 : Int)] ∧ h' = h := by
  apply bits_Unvarint_vc
  unfold vcbits_Unvarint
  have hl := hr.lenB
  refine ⟨fun v n m h' => h = h' ∧ ∃ (k v0 : Nat), n = k ∧ v = v0 ∧ v0 < 2 ^ 64 ∧ m + k = l.length ∧ k ≤ 10 ∧ unvarL 0 0 l = unvarL k v0 (l.drop k), l.length, ⟨rfl, 0, 0, rfl, rfl, by omega, rfl, by omega, rfl⟩, ?_⟩
  rintro _ _ _ m _ ⟨rfl, k, v, rfl, rfl, hv, hm, hk10, e⟩
  refine IfB.dec (fun hge => ?_) (fun hlt => ?_)
  · rw [List.drop_of_length_le (by omega)] at e
    rw [e]; exact ⟨rfl, rfl⟩
  have hk : k < l.length := by omega
  have hd : l.drop k = l[k] :: l.drop (k + 1) := List.drop_eq_getElem_cons hk
  rw [hd] at e
  refine IfB.dec (fun hge => ?_) (fun hlt10 => ?_)
  · have : k = 10 := by omega
    rw [unvarL, if_pos (by omega)] at e
    rw [e]; exact ⟨rfl, rfl⟩
  have hk9 : k ≤ 9 := by omega
  refine ixB hr.rd hl k rfl hk ?_
  obtain ⟨d1, d2⟩ := dig_eval (c := l[k]) hv hk9
  have eA : iAdd .i64 (k : Int) (1 : Int) = ((k + 1 : Nat) : Int) := by rw [iAdd64 (by omega)]; push_cast; rfl
  rw [d1, eA]
  refine ⟨by rw [iMul64 (by omega)]; omega, ?_⟩
  rw [unvarL, if_neg (by omega)] at e
  refine IfB.dec (fun h128 => ?_) (fun h128 => ?_)
  · rw [if_pos (by omega)] at e
    have yes : ((k + 1 = 10 ∧ 1 < l[k].toNat) ∨ (1 < k + 1 ∧ l[k].toNat = 0)) → (Value.tuple #[.int .u64 (0 : Int), .int .i64 (0 : Int)] = .tuple #[.int .u64 ((unvarL 0 0 l).1 : Int), .int .i64 ((unvarL 0 0 l).2 : Int)] ∧ h = h) := fun hc => by
      rw [if_pos hc] at e; rw [e]; exact ⟨rfl, rfl⟩
    have no : ¬ ((k + 1 = 10 ∧ 1 < l[k].toNat) ∨ (1 < k + 1 ∧ l[k].toNat = 0)) → (Value.tuple #[.int .u64 ((dig v l[k] k : Nat) : Int), .int .i64 ((k + 1 : Nat) : Int)] = .tuple #[.int .u64 ((unvarL 0 0 l).1 : Int), .int .i64 ((unvarL 0 0 l).2 : Int)] ∧ h = h) := fun hc => by
      rw [if_neg hc] at e; rw [e]; exact ⟨rfl, rfl⟩
    have last : IfB (decide (((k + 1 : Nat) : Int) > (1 : Int))) (IfB ((l[k].toNat : Int) == (0 : Int)) (Value.tuple #[.int .u64 (0 : Int), .int .i64 (0 : Int)] = .tuple #[.int .u64 ((unvarL 0 0 l).1 : Int), .int .i64 ((unvarL 0 0 l).2 : Int)] ∧ h = h)
        (Value.tuple #[.int .u64 ((dig v l[k] k : Nat) : Int), .int .i64 ((k + 1 : Nat) : Int)] = .tuple #[.int .u64 ((unvarL 0 0 l).1 : Int), .int .i64 ((unvarL 0 0 l).2 : Int)] ∧ h = h))
        (Value.tuple #[.int .u64 ((dig v l[k] k : Nat) : Int), .int .i64 ((k + 1 : Nat) : Int)] = .tuple #[.int .u64 ((unvarL 0 0 l).1 : Int), .int .i64 ((unvarL 0 0 l).2 : Int)] ∧ h = h) ∨ (k + 1 = 10 ∧ 1 < l[k].toNat) := by
      by_cases h10 : k + 1 = 10 ∧ 1 < l[k].toNat
      · exact .inr h10
      · left
        refine IfB.dec (fun g1 => IfB.eq (fun g0 => yes (.inr ⟨by omega, by omega⟩)) (fun g0 => no ?_)) (fun g1 => no ?_)
        · rintro (h | h)
          · exact h10 h
          · omega
        · rintro (h | h)
          · exact h10 h
          · omega
    refine IfB.eq (fun g10 => ?_) (fun g10 => ?_)
    · refine IfB.dec (fun g1 => yes (.inl ⟨by omega, by omega⟩)) (fun g1 => ?_)
      rcases last with h | h
      · exact h
      · omega
    · rcases last with h | h
      · exact h
      · omega
  · rw [if_neg (by omega)] at e
    exact ⟨m - 1, by omega, rfl, k + 1, _, rfl, rfl, d2, by omega, by omega, e⟩

/-- the number of so many bytes. -/
def getR (n : Nat) (l : List UInt8) : Nat × Bool := if l.length < n then (0, false) else (leN (l.take n), true)
theorem get_spec {h : Hp} {s : Sl} {l : List UInt8} {n : Nat} (hn : n ≤ 8) (hr : Rd 1 h s (l.map bv)) :
    HCalls Try.prog fn_bits_get #[.slice s.base s.len s.cap, .int .i64 (n : Int)] h fun r h' => r = .tuple #[.int .u64 ((getR n l).1 : Int), .bool (getR n l).2] ∧ h' = h := by
  apply bits_get_vc
  unfold vcbits_get
  have hl := hr.lenB
  refine IfB.dec (fun hlt => ?_) (fun hge => ?_)
  · unfold getR; rw [if_pos (by omega)]; exact ⟨rfl, rfl⟩
  have hnl : n ≤ l.length := by omega
  refine ⟨fun v i m h' => h = h' ∧ ∃ k : Nat, i = k ∧ v = (leN (l.take k) : Int) ∧ m + k = n, n, ⟨rfl, 0, rfl, rfl, rfl⟩, ?_⟩
  rintro _ _ _ m _ ⟨rfl, k, rfl, rfl, hm⟩
  refine IfB.dec (fun hlt => ?_) (fun hge' => ?_)
  · have hk : k < l.length := by omega
    refine ixB hr.rd hl k rfl hk ?_
    have e8 : iMul .i64 (8 : Int) (k : Int) = ((8 * k : Nat) : Int) := by rw [iMul64 (by omega)]; push_cast; rfl
    have hc : l[k].toNat < 256 := l[k].toBitVec.isLt
    have hlt1 := leN_lt (l.take k)
    rw [List.length_take, Nat.min_eq_left (by omega)] at hlt1
    have hlt2 := leN_lt (l.take (k + 1))
    rw [List.length_take, Nat.min_eq_left (by omega), leN_snoc l k hk] at hlt2
    have hp : 2 ^ (8 * (k + 1)) ≤ 2 ^ 64 := Nat.pow_le_pow_right (by omega) (by omega)
    have hp2 : 2 ^ (8 * k) ≤ 2 ^ 64 := Nat.pow_le_pow_right (by omega) (by omega)
    have ec : iConv .u64 (l[k].toNat : Int) = (l[k].toNat : Int) := by rw [iConv_nat u64s, Nat.mod_eq_of_lt (by simp only [IntKind.bits]; omega)]
    rw [e8, ec, iShl_nat u64s (by simp only [IntKind.bits]; omega), Nat.mod_eq_of_lt (by simp only [IntKind.bits]; omega), iOr_nat u64s (by simp only [IntKind.bits]; omega) (by simp only [IntKind.bits]; omega), or_add hlt1]
    refine ⟨by omega, m - 1, by omega, rfl, k + 1, ?_, ?_, by omega⟩
    · rw [iAdd64 (by omega)]; push_cast; rfl
    · rw [leN_snoc l k hk]
  · obtain rfl : k = n := by omega
    unfold getR; rw [if_neg (by omega)]; exact ⟨rfl, rfl⟩
theorem Get64_spec {h : Hp} {s : Sl} {l : List UInt8} (hr : Rd 1 h s (l.map bv)) :
    HCalls Try.prog fn_bits_Get64 #[.slice s.base s.len s.cap] h fun r h' => r = .tuple #[.int .u64 ((getR 8 l).1 : Int), .bool (getR 8 l).2] ∧ h' = h := by
  apply bits_Get64_vc
  unfold vcbits_Get64
  refine (get_spec (n := 8) (by omega) hr).mono ?_
  rintro _ _ ⟨rfl, rfl⟩
  exact ⟨_, _, rfl, rfl, rfl⟩
theorem getR_lt (n : Nat) (l : List UInt8) : (getR n l).1 < 2 ^ (8 * n) := by
  unfold getR
  split
  · exact Nat.two_pow_pos _
  · have := leN_lt (l.take n)
    rw [List.length_take, Nat.min_eq_left (by omega)] at this
    exact this
theorem Get32_spec {h : Hp} {s : Sl} {l : List UInt8} (hr : Rd 1 h s (l.map bv)) :
    HCalls Try.prog fn_bits_Get32 #[.slice s.base s.len s.cap] h fun r h' => r = .tuple #[.int .u32 ((getR 4 l).1 : Int), .bool (getR 4 l).2] ∧ h' = h := by
  apply bits_Get32_vc
  unfold vcbits_Get32
  refine (get_spec (n := 4) (by omega) hr).mono ?_
  rintro _ _ ⟨rfl, rfl⟩
  have := getR_lt 4 l
  have e : iConv .u32 ((getR 4 l).1 : Int) = ((getR 4 l).1 : Int) := by rw [iConv_nat u32s, Nat.mod_eq_of_lt (by simp only [IntKind.bits]; omega)]
  refine ⟨_, _, rfl, ?_, rfl⟩
  rw [e]

end Go.Proofs.Ytkakpeojhjifgaa
