/-
  CrcFlips (chapter 7): one bit, two bits, a byte turned.
-/
import Derived.Test.YtkakpeojhjifgaaLaw7
namespace Go.Proofs.Ytkakpeojhjifgaa
set_option linter.unusedVariables false
set_option linter.unusedSimpArgs false

theorem set_oneAt (l : List UInt8) (k : Nat) (hk : k < l.length) (x : UInt8) : l.set k (l[k] ^^^ x) = xorL l (oneAt l.length k x) := by
  apply List.ext_getElem
  · simp [xorL, oneAt_len x hk]
  · intro j h1 h2
    simp only [List.length_set] at h1
    rw [List.getElem_set]
    simp only [xorL, List.getElem_zipWith, oneAt]
    by_cases e : k = j
    · subst e; simp
    · rw [if_neg e]
      have : (List.replicate k (0 : UInt8) ++ x :: List.replicate (l.length - k - 1) 0)[j]'(by simp; omega) = 0 := by
        rw [List.getElem_append]
        split
        · simp
        · rename_i hj
          simp only [List.length_replicate] at hj
          rw [List.getElem_cons]
          rw [dif_neg (by simp; omega)]
          simp
      rw [this]; simp
theorem shl_bit : ∀ k : Fin 8, iShl .u8 (1 : Int) (k.val : Int) = (((1 <<< UInt8.ofNat k.val : UInt8)).toNat : Int) := by decide +kernel
theorem turn_val (x : UInt8) (b : Nat) (hb : b < 8) : Value.int .u8 (iXor .u8 (x.toNat : Int) (iShl .u8 (1 : Int) (b : Int))) = bv (x ^^^ (1 <<< UInt8.ofNat b)) := by
  rw [shl_bit ⟨b, hb⟩, xor_bv]; rfl
theorem map_set_bv (l : List UInt8) (k : Nat) (x : UInt8) : (l.map bv).set k (bv x) = (l.set k x).map bv := by simp [List.map_set]
/-- the sum where one bit is turned. -/
theorem crc_bit {l : List UInt8} {m : Nat} (hm : m < 8 * l.length) : crcV (l.set (m / 8) (l[m / 8]'(by omega) ^^^ (1 <<< UInt8.ofNat (m % 8)))) = crcV l ^^^ cpow (8 * l.length - m) 1#32 := by
  rw [set_oneAt l (m / 8) (by omega), xorL_self_diff _ _ (oneAt_len _ (by omega)), creg_bit _ _ _ (by omega)]
  congr 2
  omega
theorem bv_ne_of {w : Nat} {a b : BitVec w} (h : b ≠ 0#w) : a ^^^ b ≠ a := by
  intro e
  apply h
  have : a ^^^ (a ^^^ b) = a ^^^ a := by rw [e]
  rw [bxx] at this
  simpa using this
theorem crc_bit_ne {l : List UInt8} {m : Nat} (hm : m < 8 * l.length) : crcV (l.set (m / 8) (l[m / 8]'(by omega) ^^^ (1 <<< UInt8.ofNat (m % 8)))) ≠ crcV l := by
  rw [crc_bit hm]
  exact bv_ne_of fun h => by
    have := cpow_inj0 _ h
    exact absurd this (by decide)
theorem crc_two {l : List UInt8} {m n : Nat} (hm : m < 8 * l.length) (hn : n < 8 * l.length) (h200 : l.length ≤ 200) :
    let c := l.set (m / 8) (l[m / 8]'(by omega) ^^^ (1 <<< UInt8.ofNat (m % 8)))
    (crcV (c.set (n / 8) (c[n / 8]'(by simp [c]; omega) ^^^ (1 <<< UInt8.ofNat (n % 8)))) = crcV l ↔ m = n) := by
  intro c
  have hc : c.length = l.length := by simp [c]
  have e1 := crc_bit (l := c) (m := n) (by omega)
  rw [e1, hc, show crcV c = crcV l ^^^ cpow (8 * l.length - m) 1#32 from crc_bit hm, BitVec.xor_assoc]
  constructor
  · intro h
    by_cases hne : m = n
    · exact hne
    · exfalso
      refine bv_ne_of (a := crcV l) (fun h0 => ?_) h
      exact cpow_two (a := 8 * l.length - m) (b := 8 * l.length - n) (by omega) (by omega) (by omega) (xor_self_cancel h0)
  · rintro rfl; simp
theorem crc_byte_ne {l : List UInt8} {k : Nat} (hk : k < l.length) {x : UInt8} (hx : x ≠ 0) : crcV (l.set k (l[k] ^^^ x)) ≠ crcV l := by
  rw [set_oneAt l k hk, xorL_self_diff _ _ (oneAt_len _ hk)]
  exact bv_ne_of (creg_oneAt_ne hx)
theorem crcN_ne {a b : List UInt8} (h : crcV a ≠ crcV b) : ((crcN a : Int) != (crcN b : Int)) = true := by
  rw [bne_iff_ne]
  intro e
  exact h (BitVec.eq_of_toNat_eq (by unfold crcN at e; omega))

theorem CrcFlips_spec {h : Hp} {s : Sl} {l : List UInt8} (hb : InB h s l) (i j x : Int) : HCalls Try.prog fn_scarplaw7_CrcFlips #[.slice s.base s.len s.cap, .int .i64 i, .int .i64 j, .int .i64 x] h (Yes h) := by
  apply scarplaw7_CrcFlips_vc
  unfold vcscarplaw7_CrcFlips
  have aw : ∀ (h1 : Hp), Ext h h1 → HCalls Try.prog fn_scarplaw7_awake #[] h1 fun r vh => ∃ c1 : Bool, r = .bool c1 ∧ Yes h (.bool c1) vh := fun h1 e => (awake7_spec h1).mono (by
    rintro _ h2 ⟨rfl, e2⟩; exact ⟨_, rfl, rfl, e.trans e2⟩)
  have la := hb.len
  refine IfB.dec (fun hgt => aw h (.refl h)) (fun hle => ?_)
  refine IfB.eq (fun _ => aw h (.refl h)) (fun hne => ?_)
  refine (Of_spec la hb.rd (by omega)).mono ?_
  rintro _ h1 ⟨rfl, e1⟩
  refine ⟨_, rfl, ?_⟩
  have e8 : iMul .i64 (8 : Int) (s.len : Int) = ((8 * l.length : Nat) : Int) := by rw [iMul64 (by omega)]; push_cast; omega
  rw [e8]
  have hpos : 0 < l.length := by omega
  refine (Round_spec i ((8 * l.length : Nat) : Int) (by omega) (by omega) h1).mono ?_
  rintro _ _ ⟨rfl, rfl⟩
  refine ⟨_, rfl, ?_⟩
  refine (Round_spec j ((8 * l.length : Nat) : Int) (by omega) (by omega) _).mono ?_
  rintro _ h4 ⟨rfl, rfl⟩
  refine ⟨_, rfl, ?_⟩
  obtain ⟨m, hmi, hm⟩ : ∃ m : Nat, i % ((8 * l.length : Nat) : Int) = m ∧ m < 8 * l.length := by
    have a1 := Int.emod_nonneg i (show ((8 * l.length : Nat) : Int) ≠ 0 by omega)
    have a2 := Int.emod_lt_of_pos i (show (0 : Int) < ((8 * l.length : Nat) : Int) by omega)
    exact ⟨(i % ((8 * l.length : Nat) : Int)).toNat, by omega, by omega⟩
  obtain ⟨n, hnj, hn⟩ : ∃ m : Nat, j % ((8 * l.length : Nat) : Int) = m ∧ m < 8 * l.length := by
    have a1 := Int.emod_nonneg j (show ((8 * l.length : Nat) : Int) ≠ 0 by omega)
    have a2 := Int.emod_lt_of_pos j (show (0 : Int) < ((8 * l.length : Nat) : Int) by omega)
    exact ⟨(j % ((8 * l.length : Nat) : Int)).toNat, by omega, by omega⟩
  rw [hmi, hnj]
  have q8 : ∀ m : Nat, m < 8 * l.length → iQuo .i64 (m : Int) (8 : Int) = ((m / 8 : Nat) : Int) := fun m hm => by
    rw [iQuo64 (by omega), Int.tdiv_eq_ediv_of_nonneg (by omega)]; push_cast; rfl
  have r8 : ∀ m : Nat, iRem (m : Int) (8 : Int) = ((m % 8 : Nat) : Int) := fun m => by rw [iRem_nn (by omega)]; push_cast; rfl
  rw [q8 m hm, q8 n hn, r8 m, r8 n]
  have o0 : Own h4.size 1 (alc h4 [] _) ⟨some (nw h4), 0, 0⟩ [] := Own.alc h4 [] 5 0 1 rfl
  refine AppC_own (news := l.map bv) rfl o0 (by rw [size_alc]; omega) (by simpa using la) ((hb.rd.ext e1).ext (alc_ext _ _ _)) (cellOk_bv l) (by simp; omega) (by simp; omega) fun s1 h6 o1 l1 k1 _ => ?_
  simp only [List.nil_append] at o1
  have hl1 : l.length = s1.len := by rw [l1]; simpa using la
  have k4 : Keep h4.size h4 h6 := ((alc_ext h4 _ _).toKeep).trans k1
  refine ⟨by decide, by decide, ?_⟩
  refine ix1 o1.rd (by simpa using hl1) (m / 8) rfl (by simp; omega) fun a ha hc => ?_
  rw [List.getElem_map] at hc
  refine ⟨_, hc, by decide, by omega, a, ha, by omega, by omega, ?_⟩
  obtain ⟨g1, g2, g3, _, _⟩ := o1.set ha (k := m / 8) (by simp; omega) (bv (l[m / 8]'(by omega) ^^^ (1 <<< UInt8.ofNat (m % 8))))
  try simp only [Int.toNat_natCast, Nat.mul_one]
  rw [turn_val _ _ (by omega)]
  refine ⟨g1, ?_⟩
  rw [map_set_bv] at g2
  have k5 := k4.trans g3
  have hlc : ∀ y, (l.set (m / 8) y).length = s1.len := by intro y; simpa using hl1
  refine (Of_spec (hlc _) g2.rd (by simp; omega)).mono ?_
  rintro _ h8 ⟨rfl, e8'⟩
  refine ⟨_, rfl, by decide, by decide, ?_⟩
  have o2 := g2.ext e8'
  refine ix1 o2.rd (by simpa using hl1) (n / 8) rfl (by simp; omega) fun a2 ha2 hc2 => ?_
  rw [List.getElem_map] at hc2
  simp only [Int.toNat_natCast, Nat.mul_one] at hc2
  refine ⟨_, hc2, by decide, by omega, a2, ha2, by omega, by omega, ?_⟩
  obtain ⟨f1, f2, f3, _, _⟩ := o2.set ha2 (k := n / 8) (by simp; omega) (bv ((l.set (m / 8) (l[m / 8]'(by omega) ^^^ (1 <<< UInt8.ofNat (m % 8))))[n / 8]'(by simp; omega) ^^^ (1 <<< UInt8.ofNat (n % 8))))
  try simp only [Int.toNat_natCast, Nat.mul_one]
  rw [turn_val _ _ (by omega)]
  refine ⟨f1, ?_⟩
  rw [map_set_bv] at f2
  have k6 := (k5.trans (e8'.keep (by have := k5.size; omega))).trans f3
  refine (Of_spec (by simpa using hl1) f2.rd (by simp; omega)).mono ?_
  rintro _ h10 ⟨rfl, e10⟩
  refine ⟨_, rfl, ?_⟩
  have k7 := k6.trans (e10.keep (by have := k6.size; omega))
  have hsz := k7.size
  have o3 : Own h10.size 1 (alc h10 [] _) ⟨some (nw h10), 0, 0⟩ [] := Own.alc h10 [] 5 0 1 rfl
  refine AppC_own (news := l.map bv) rfl o3 (by rw [size_alc]; omega) (by simpa using la) (((hb.rd.ext e1).ext k7.ext).ext (alc_ext _ _ _)) (cellOk_bv l) (by simp; omega) (by simp; omega) fun s2 h12 o4 l4 k8 _ => ?_
  simp only [List.nil_append] at o4
  have hl2 : l.length = s2.len := by rw [l4]; simpa using la
  have k9 := k7.trans ((((alc_ext h10 _ _).toKeep).trans k8).le hsz)
  refine ⟨by decide, by decide, ?_⟩
  refine ix1 o4.rd (by simpa using hl2) (m / 8) rfl (by simp; omega) fun a4 ha4 hc4 => ?_
  rw [List.getElem_map] at hc4
  simp only [Int.toNat_natCast, Nat.mul_one] at hc4
  refine ⟨_, hc4, ?_⟩
  refine (Round_spec x 255 (by omega) (by omega) h12).mono ?_
  rintro _ _ ⟨rfl, rfl⟩
  refine ⟨_, rfl, .refl _, a4, ha4, by omega, by omega, ?_⟩
  obtain ⟨y, hy, hy0⟩ : ∃ y : UInt8, iConv .u8 (iAdd .i64 (x % 255) (1 : Int)) = (y.toNat : Int) ∧ y ≠ 0 := by
    have a1 := Int.emod_nonneg x (show (255 : Int) ≠ 0 by omega)
    have a2 := Int.emod_lt_of_pos x (show (0 : Int) < 255 by omega)
    obtain ⟨q, hq, hq2⟩ : ∃ q : Nat, x % 255 = q ∧ q < 255 := ⟨(x % 255).toNat, by omega, by omega⟩
    rw [hq, iAdd64 (by omega), show (q : Int) + 1 = ((q + 1 : Nat) : Int) by push_cast; rfl, iConv_nat u8s]
    refine ⟨UInt8.ofNat (q + 1), by simp [IntKind.bits], fun h0 => ?_⟩
    have := congrArg UInt8.toNat h0
    simp at this
    omega
  rw [hy]
  obtain ⟨d1, d2, d3, _, _⟩ := o4.set ha4 (k := m / 8) (by simp; omega) (bv (l[m / 8]'(by omega) ^^^ y))
  try simp only [Int.toNat_natCast, Nat.mul_one]
  rw [xor_bv]
  refine ⟨d1, ?_⟩
  have d2' : Own _ 1 (hset _ (a4.add (m / 8)) (bv (l[m / 8]'(by omega) ^^^ y))) s2 _ := d2
  rw [map_set_bv] at d2'
  refine IfB.yes (crcN_ne (crc_bit_ne hm)) ?_
  have htwo := crc_two hm hn (show l.length ≤ 200 by omega)
  refine IfB.yes ?_ ?_
  · by_cases e : m = n
    · have := htwo.2 e
      have e2 : ∀ z : List UInt8, crcV z = crcV l → ((crcN z : Int) != (crcN l : Int)) = false := by
        intro z hz; unfold crcN; rw [hz]; simp
      rw [e2 _ this]; subst e; simp
    · have := crcN_ne (fun h0 => e (htwo.1 h0))
      rw [this]
      have : ((m : Int) != (n : Int)) = true := by rw [bne_iff_ne]; omega
      rw [this]; rfl
  refine (Of_spec (l := l.set (m / 8) (l[m / 8]'(by omega) ^^^ y)) (by simpa using hl2) d2'.rd (by simp; omega)).mono ?_
  rintro _ h15 ⟨rfl, e15⟩
  refine ⟨_, rfl, .yes (crcN_ne (crc_byte_ne _ hy0)) (aw h15 ?_)⟩
  have k10 := k9.trans (d3.le hsz)
  exact (e1.trans k10.ext).trans e15
theorem CrcFlips_law {h : Hp} (s : Sl) (l : List Int) (w : InI .u8 h s l) (i : Int) (_ : (Lit.int .i64 i).wf = true) (j : Int) (_ : (Lit.int .i64 j).wf = true) (x : Int) (_ : (Lit.int .i64 x).wf = true) :
    HCalls Try.prog fn_scarplaw7_CrcFlips #[.slice s.base s.len s.cap, .int .i64 i, .int .i64 j, .int .i64 x] h (Yes h) := by
  obtain ⟨a, ha⟩ := w.bytes
  exact CrcFlips_spec ha i j x

end Go.Proofs.Ytkakpeojhjifgaa
