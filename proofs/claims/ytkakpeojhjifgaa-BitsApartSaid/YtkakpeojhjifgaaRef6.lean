/-
  The document's own functions for chapter 6: contracts.
-/
import Derived.Test.YtkakpeojhjifgaaBits2
namespace Go.Proofs.Ytkakpeojhjifgaa
set_option linter.unusedVariables false
set_option linter.unusedSimpArgs false

theorem refVarint_spec (v : Nat) (hv : v < 2 ^ 64) (h : Hp) : HCalls Try.prog fn_scarpref6_Varint #[.int .u64 (v : Int)] h (NewB h (varintL v)) := by
  apply scarpref6_Varint_vc
  unfold vcscarpref6_Varint
  refine ⟨fun v' s x h' => ∃ l : List UInt8, v' = x ∧ x < 2 ^ 64 ∧ Own h.size 1 h' s (l.map bv) ∧ s.len = l.length ∧ Keep h.size h h' ∧ varintL v = l ++ varintL x, v, ⟨[], rfl, hv, Own.nil _ _ _, rfl, .refl _ _, rfl⟩, ?_⟩
  rintro _ _ s x h' ⟨l, rfl, hx, ho, hl, hk, e⟩
  have hlen : (varintL v).length ≤ 10 := vlen_le10 hv
  have hpos := varintL_len_pos x
  rw [e, List.length_append] at hlen
  refine IfB.dec (fun hge => ?_) (fun hlt => ?_)
  · have eb : Value.int .u8 (iConv .u8 (iOr .u64 (iAnd .u64 (x : Int) (127 : Int)) (128 : Int))) = bv (UInt8.ofNat x ||| 128) := by
      rw [show (127 : Int) = ((127 : Nat) : Int) by rfl, iAnd_nat u64s (by simpa [IntKind.bits] using hx) (by simp [IntKind.bits]), show (127 : Nat) = 2 ^ 7 - 1 by rfl, Nat.and_two_pow_sub_one_eq_mod, show (128 : Int) = ((128 : Nat) : Int) by rfl, iOr_nat u64s (by simp only [IntKind.bits]; omega) (by simp [IntKind.bits]), bv_conv]
      congr 1
      apply UInt8.toNat_inj.1
      obtain ⟨e1, e2⟩ := or128_mod x
      have e3 : (x % 2 ^ 7 ||| 128) = 128 + x % 128 := by
        have := Nat.two_pow_add_eq_or_of_lt (i := 7) (b := x % 2 ^ 7) (Nat.mod_lt _ (by omega)) 1
        rw [Nat.mul_one] at this
        rw [Nat.or_comm, show (128 : Nat) = 2 ^ 7 by rfl, ← this]
      have e4 : (UInt8.ofNat x ||| 128).toNat < 256 := (UInt8.ofNat x ||| 128).toBitVec.isLt
      rw [e3]; simp only [UInt8.toNat_ofNat']
      omega
    rw [eb]
    refine AppC_new rfl ho hk.size rfl (cellOk_bv [_]) (by omega) (by omega) fun r h'' h1 h2 h3 _ => ?_
    refine ⟨by omega, x / 128, by omega, l ++ [UInt8.ofNat x ||| 128], ?_, by omega, by simpa using h1, by rw [h2, hl]; simp, hk.trans h3, ?_⟩
    · exact iShr_nat (k := .u64) (b := 7) (by simp [IntKind.bits])
    · rw [e, varintL_ge (by omega)]; simp
  · rw [bv_conv]
    refine AppC_new rfl ho hk.size rfl (cellOk_bv [_]) (by omega) (by omega) fun r h'' h1 h2 h3 _ => ?_
    refine ⟨r, rfl, ?_, ?_, (hk.trans h3).ext⟩
    · rw [e, varintL_lt (by omega)]; simpa using h1
    · rw [h2, e, varintL_lt (by omega), hl]; simp
theorem leB_take_succ {n v k : Nat} (h : k < n) : (leB n v).take (k + 1) = (leB n v).take k ++ [byteAt v k] := by
  rw [leB_take (by omega), leB_take (by omega), leB_succ]
theorem refPut_spec (v n : Nat) (hn : n ≤ 8) (h : Hp) : HCalls Try.prog fn_scarpref6_Put #[.int .u64 (v : Int), .int .i64 (n : Int)] h (NewB h (leB n v)) := by
  apply scarpref6_Put_vc
  unfold vcscarpref6_Put
  refine ⟨fun s i m h' => ∃ k : Nat, i = k ∧ m + k = n ∧ Own h.size 1 h' s (((leB n v).take k).map bv) ∧ s.len = k ∧ Keep h.size h h', n, ⟨0, rfl, rfl, Own.nil _ _ _, rfl, .refl _ _⟩, ?_⟩
  rintro _ s _ m h' ⟨k, rfl, hm, ho, hl, hk⟩
  refine IfB.dec (fun hlt => ?_) (fun hge => ?_)
  · have e8 : iMul .i64 (8 : Int) (k : Int) = ((8 * k : Nat) : Int) := by rw [iMul64 (by omega)]; push_cast; rfl
    rw [e8, iShr_nat (k := .u64) (by simp only [IntKind.bits]; omega), bv_conv]
    refine ⟨by omega, ?_⟩
    refine AppC_new (news := [bv (byteAt v k)]) rfl ho hk.size rfl (cellOk_bv [_]) (by omega) (by omega) fun r h'' g1 g2 g3 _ => ?_
    refine ⟨m - 1, by omega, k + 1, ?_, by omega, ?_, by omega, hk.trans g3⟩
    · rw [iAdd64 (by omega)]; push_cast; rfl
    · rw [leB_take_succ (by omega), List.map_append]; exact g1
  · obtain rfl : k = n := by omega
    refine ⟨s, rfl, ?_, by rw [leB_length]; exact hl, hk.ext⟩
    rw [List.take_of_length_le (by rw [leB_length]; exact Nat.le_refl _)] at ho
    exact ho
theorem refGet_spec {h : Hp} {s : Sl} {l : List UInt8} {n : Nat} (hn : n ≤ 8) (hr : Rd 1 h s (l.map bv)) :
    HCalls Try.prog fn_scarpref6_Get #[.slice s.base s.len s.cap, .int .i64 (n : Int)] h fun r h' => r = .tuple #[.int .u64 ((getR n l).1 : Int), .bool (getR n l).2] ∧ h' = h := by
  apply scarpref6_Get_vc
  unfold vcscarpref6_Get
  have hl := hr.lenB
  refine IfB.dec (fun hlt => ?_) (fun hge => ?_)
  · unfold getR; rw [if_pos (by omega)]; exact ⟨rfl, rfl⟩
  have hnl : n ≤ l.length := by omega
  have htl : (l.take n).length = n := by rw [List.length_take]; omega
  refine ⟨fun v i k h' => h = h' ∧ i = (k : Int) - 1 ∧ k ≤ n ∧ v = (leN ((l.take n).drop k) : Int), n, ⟨rfl, by rw [iSub64 (by omega)], Nat.le_refl _, by rw [List.drop_of_length_le (by omega)]; rfl⟩, ?_⟩
  rintro _ _ _ k _ ⟨rfl, rfl, hk, rfl⟩
  refine IfB.dec (fun hlt => ?_) (fun hge' => ?_)
  · obtain ⟨j, rfl⟩ : ∃ j, k = j + 1 := ⟨k - 1, by omega⟩
    have hj : j < l.length := by omega
    have ej : ((j + 1 : Nat) : Int) - 1 = (j : Int) := by omega
    rw [ej]
    have hd : (l.take n).drop j = l[j] :: (l.take n).drop (j + 1) := by
      rw [List.drop_eq_getElem_cons (by omega)]; simp
    have hlt := leN_lt ((l.take n).drop (j + 1))
    rw [List.length_drop, htl] at hlt
    have hp : 2 ^ (8 * (n - (j + 1))) * 256 ≤ 2 ^ 64 := by
      rw [show 256 = 2 ^ 8 by rfl, ← Nat.pow_add]; exact Nat.pow_le_pow_right (by omega) (by omega)
    have hc : l[j].toNat < 256 := l[j].toBitVec.isLt
    obtain ⟨x, hxe⟩ : ∃ x, x = leN ((l.take n).drop (j + 1)) := ⟨_, rfl⟩
    rw [← hxe] at hlt ⊢
    have hx : x * 256 < 2 ^ 64 := Nat.lt_of_lt_of_le (Nat.mul_lt_mul_of_pos_right hlt (by omega)) hp
    refine ⟨by omega, ?_⟩
    refine ixB hr.rd hl j rfl hj ?_
    have ec : iConv .u64 (l[j].toNat : Int) = (l[j].toNat : Int) := by rw [iConv_nat u64s, Nat.mod_eq_of_lt (by simp only [IntKind.bits]; omega)]
    rw [ec, show (8 : Int) = ((8 : Nat) : Int) by rfl, iShl_nat u64s (by simp [IntKind.bits]), Nat.mod_eq_of_lt (by simp only [IntKind.bits]; omega), iOr_nat u64s (by simp only [IntKind.bits]; omega) (by simp only [IntKind.bits]; omega), Nat.or_comm, or_add (by omega)]
    refine ⟨j, by omega, rfl, ?_, by omega, ?_⟩
    · rw [iSub64 (by omega)]
    · rw [hd]; simp only [leN]; rw [← hxe]; congr 1; omega
  · obtain rfl : k = 0 := by omega
    unfold getR; rw [if_neg (by omega)]; exact ⟨rfl, rfl⟩
theorem refUnvarint_spec {h : Hp} {s : Sl} {l : List UInt8} (hr : Rd 1 h s (l.map bv)) (hmax : l.length < 9223372036854775807) :
    HCalls Try.prog fn_scarpref6_Unvarint #[.slice s.base s.len s.cap] h fun r h' => r = .tuple #[.int .u64 ((unvarL 0 0 l).1 : Int), .int .i64 ((unvarL 0 0 l).2 : Int)] ∧ h' = h := by
  apply scarpref6_Unvarint_vc
  unfold vcscarpref6_Unvarint
  have hl := hr.lenB
  refine ⟨fun v n m h' => h = h' ∧ ∃ (k v0 : Nat), n = k ∧ v = v0 ∧ v0 < 2 ^ 64 ∧ m + k = l.length ∧ k ≤ 10 ∧ unvarL 0 0 l = unvarL k v0 (l.drop k), l.length, ⟨rfl, 0, 0, rfl, rfl, by omega, rfl, by omega, rfl⟩, ?_⟩
  rintro _ _ _ m _ ⟨rfl, k, v, rfl, rfl, hv, hm, hk10, e⟩
  refine IfB.dec (fun hlt => ?_) (fun hge => ?_)
  · have hk : k < l.length := by omega
    have hd : l.drop k = l[k] :: l.drop (k + 1) := List.drop_eq_getElem_cons hk
    rw [hd] at e
    refine IfB.dec (fun hlt10 => ?_) (fun hge => ?_)
    · have hk9 : k ≤ 9 := by omega
      refine ixB hr.rd hl k rfl hk ?_
      obtain ⟨d1, d2⟩ := dig_eval (c := l[k]) hv hk9
      have eA : iAdd .i64 (k : Int) (1 : Int) = ((k + 1 : Nat) : Int) := by rw [iAdd64 (by omega)]; push_cast; rfl
      have e7 : (0 : Int) ≤ iMul .i64 (7 : Int) (k : Int) := by rw [iMul64 (by omega)]; omega
      rw [unvarL, if_neg (by omega)] at e
      have zero : (unvarL 0 0 l = (0, 0)) → (Value.tuple #[.int .u64 (0 : Int), .int .i64 (0 : Int)] = .tuple #[.int .u64 ((unvarL 0 0 l).1 : Int), .int .i64 ((unvarL 0 0 l).2 : Int)] ∧ h = h) := fun hc => by
        rw [hc]; exact ⟨rfl, rfl⟩
      have some' : unvarL 0 0 l = (dig v l[k] k, k + 1) → (Value.tuple #[.int .u64 ((dig v l[k] k : Nat) : Int), .int .i64 ((k + 1 : Nat) : Int)] = .tuple #[.int .u64 ((unvarL 0 0 l).1 : Int), .int .i64 ((unvarL 0 0 l).2 : Int)] ∧ h = h) := fun hc => by
        rw [hc]; exact ⟨rfl, rfl⟩
      have main : ¬ (k = 9 ∧ 1 < l[k].toNat) → (0 ≤ (iMul .i64 (7 : Int) (k : Int)) ∧
          IfB (decide ((l[k].toNat : Int) < (128 : Int))) (IfB ((l[k].toNat : Int) == (0 : Int)) (IfB (decide ((k : Int) > (0 : Int))) (Value.tuple #[.int .u64 (0 : Int), .int .i64 (0 : Int)] = .tuple #[.int .u64 ((unvarL 0 0 l).1 : Int), .int .i64 ((unvarL 0 0 l).2 : Int)] ∧ h = h)
              (Value.tuple #[.int .u64 ((dig v l[k] k : Nat) : Int), .int .i64 ((k + 1 : Nat) : Int)] = .tuple #[.int .u64 ((unvarL 0 0 l).1 : Int), .int .i64 ((unvarL 0 0 l).2 : Int)] ∧ h = h))
            (Value.tuple #[.int .u64 ((dig v l[k] k : Nat) : Int), .int .i64 ((k + 1 : Nat) : Int)] = .tuple #[.int .u64 ((unvarL 0 0 l).1 : Int), .int .i64 ((unvarL 0 0 l).2 : Int)] ∧ h = h))
          (∃ n2, n2 < m ∧ (h = h ∧ ∃ (k' v0 : Nat), ((k + 1 : Nat) : Int) = k' ∧ ((dig v l[k] k : Nat) : Int) = v0 ∧ v0 < 2 ^ 64 ∧ n2 + k' = l.length ∧ k' ≤ 10 ∧ unvarL 0 0 l = unvarL k' v0 (l.drop k')))) := by
        intro hno
        refine ⟨e7, IfB.dec (fun h128 => ?_) (fun h128 => ?_)⟩
        · rw [if_pos (by omega)] at e
          refine IfB.eq (fun g0 => IfB.dec (fun g1 => zero ?_) (fun g1 => some' ?_)) (fun g0 => some' ?_)
          · rw [e, if_pos (.inr ⟨by omega, by omega⟩)]
          · rw [e, if_neg (by omega)]
          · rw [e, if_neg (by omega)]
        · rw [if_neg (by omega)] at e
          exact ⟨m - 1, by omega, rfl, k + 1, _, rfl, rfl, d2, by omega, by omega, e⟩
      rw [d1, eA]
      refine IfB.eq (fun g9 => IfB.dec (fun g1 => zero ?_) (fun g1 => main (by omega))) (fun g9 => main (by omega))
      by_cases h128 : l[k].toNat < 128
      · rw [e, if_pos h128, if_pos (.inl ⟨by omega, by omega⟩)]
      · rw [e, if_neg h128]
        cases hdr : l.drop (k + 1) with
        | nil => rfl
        | cons c r => rw [unvarL, if_pos (by omega)]
    · rw [unvarL, if_pos (by omega)] at e
      rw [e]; exact ⟨rfl, rfl⟩
  · rw [List.drop_of_length_le (by omega)] at e
    rw [e]; exact ⟨rfl, rfl⟩

end Go.Proofs.Ytkakpeojhjifgaa
