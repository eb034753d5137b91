/-
  BitsHalves, BitsBack, BitsAsks (chapter 6).
-/
import Derived.Test.YtkakpeojhjifgaaRef6
import Derived.Test.YtkakpeojhjifgaaAlike
import Derived.Test.YtkakpeojhjifgaaLaw6a
namespace Go.Proofs.Ytkakpeojhjifgaa
set_option linter.unusedVariables false
set_option linter.unusedSimpArgs false

theorem InB.toRd {h : Hp} {s : Sl} {l : List UInt8} (b : InB h s l) : Rd 1 h s (l.map bv) := ⟨by simpa using b.len, b.cap, b.rd⟩
theorem aw6 {h h1 : Hp} (e : Ext h h1) : HCalls Try.prog fn_scarplaw6_awake #[] h1 fun r vh => ∃ c1 : Bool, r = .bool c1 ∧ Yes h (.bool c1) vh :=
  (awake6_spec h1).mono (by rintro _ h2 ⟨rfl, e2⟩; exact ⟨_, rfl, rfl, e.trans e2⟩)
theorem conv32 (v : Nat) : iConv .u32 (v : Int) = ((v % 2 ^ 32 : Nat) : Int) := iConv_nat u32s v
theorem shr32 (v : Nat) : iShr .u64 (v : Int) (32 : Int) = ((v / 2 ^ 32 : Nat) : Int) := iShr_nat (k := .u64) (b := 32) (by simp [IntKind.bits])

theorem BitsHalves_spec (v : Nat) (hv : v < 2 ^ 64) (h : Hp) : HCalls Try.prog fn_scarplaw6_BitsHalves #[.int .u64 (v : Int)] h (Yes h) := by
  apply scarplaw6_BitsHalves_vc
  unfold vcscarplaw6_BitsHalves
  rw [conv32, shr32, conv32, Nat.mod_eq_of_lt (a := v / 2 ^ 32) (by omega)]
  refine (Put64_spec v hv h).mono ?_
  rintro _ h1 ⟨s, rfl, o1, l1, e1⟩
  refine ⟨_, rfl, ?_⟩
  refine (Put32_spec (v % 2 ^ 32) (Nat.mod_lt _ (by omega)) h1).mono ?_
  rintro _ h2 ⟨t, rfl, o2, l2, e2⟩
  refine ⟨_, rfl, by omega, ?_⟩
  refine (Put32_spec (v / 2 ^ 32) (by omega) h2).mono ?_
  rintro _ h3 ⟨u, rfl, o3, l3, e3⟩
  rw [leB_length] at l1 l2 l3
  have r1 := ((o1.ext e2).ext e3).toRd
  have r2 := (o2.ext e3).toRd
  have r3 := o3.toRd
  have hc := r1.cap
  refine ⟨_, rfl, ?_⟩
  refine IfB.ne (fun hne => by omega) (fun _ => IfB.ne (fun hne => by omega) (fun _ => IfB.ne (fun hne => by omega) (fun _ => ?_)))
  refine (Get32_spec r1).mono ?_
  rintro _ h3 ⟨rfl, rfl⟩
  refine ⟨_, _, rfl, by omega, by omega, by omega, by omega, ?_⟩
  have c1 := r1.cutB (lo := 4) (hi := s.len) (m := s.cap) (by omega) (by omega) (by omega)
  rw [l1, leB_drop4] at c1
  rw [l1]
  have c1' : Rd 1 h3 (cutSl s (4 : Int) ((8 : Nat) : Int) (s.cap : Int) 1) ((leB 4 (v / 2 ^ 32)).map bv) := by
    have e : (leB 4 (v / 2 ^ 32)).take (8 - 4) = leB 4 (v / 2 ^ 32) := by rw [List.take_of_length_le]; rw [leB_length]; omega
    rw [e] at c1; exact c1
  refine (Get32_spec c1').mono ?_
  rintro _ h3 ⟨rfl, rfl⟩
  refine ⟨_, _, rfl, by omega, by omega, by omega, by omega, ?_⟩
  have c2 := r1.cutB (lo := 0) (hi := 4) (m := s.cap) (by omega) (by omega) (by omega)
  have c2' : Rd 1 h3 (cutSl s (0 : Int) (4 : Int) (s.cap : Int) 1) ((leB 4 v).map bv) := by
    rw [List.drop_zero, leB_take (by omega)] at c2; exact c2
  refine (Bytes_spec c2' r2 (by rw [leB_length]; omega)).mono ?_
  rintro _ _ ⟨rfl, rfl⟩
  refine ⟨_, rfl, .yes (by rw [show 2 ^ 32 = 2 ^ (8 * 4) by rfl, leB_mod]; simp) ⟨by omega, by omega, by omega, by omega, ?_⟩⟩
  refine (Bytes_spec c1' r3 (by rw [leB_length]; omega)).mono ?_
  rintro _ h9 ⟨rfl, rfl⟩
  refine ⟨_, rfl, .yes (by simp) ?_⟩
  have g1 : getR 4 (leB 8 v) = (v % 2 ^ 32, true) := by
    unfold getR; rw [if_neg (by rw [leB_length]; omega), leB_take (by omega), leN_leB]
  have g2 : getR 4 (leB 4 (v / 2 ^ 32)) = (v / 2 ^ 32, true) := by
    unfold getR; rw [if_neg (by rw [leB_length]; omega), List.take_of_length_le (by rw [leB_length]; omega), leN_leB, Nat.mod_eq_of_lt (by omega)]
  rw [g1, g2]
  rw [show ((8 : Nat) : Int) = (s.len : Int) by omega]
  refine ixB r1.rd r1.lenB 0 rfl (by rw [leB_length]; omega) ?_
  refine IfB.yes ?_ ?_
  · have : (leB 8 v)[0]'(by rw [leB_length]; omega) = byteAt v 0 := by simp [leB]
    rw [this, iConv_nat u8s]; simp [byteAt, IntKind.bits]
  refine .yes rfl (.yes rfl (.yes (by simp) ⟨by omega, .yes (by simp) (aw6 ((e1.trans e2).trans e3))⟩))
theorem BitsHalves_law (a : Int) (wf : (Lit.int .u64 a).wf = true) {h : Hp} : HCalls Try.prog fn_scarplaw6_BitsHalves #[.int .u64 a] h (Yes h) := by
  obtain ⟨n, rfl, hn⟩ := in_u64 wf
  exact BitsHalves_spec n hn h

theorem BitsAsks_spec {h : Hp} {s : Sl} {l : List UInt8} (hb : InB h s l) (v w : Nat) (hv : v < 2 ^ 64) (hw : w < 2 ^ 32) :
    HCalls Try.prog fn_scarplaw6_BitsAsks #[.slice s.base s.len s.cap, .int .u64 (v : Int), .int .u32 (w : Int)] h (Yes h) := by
  apply scarplaw6_BitsAsks_vc
  unfold vcscarplaw6_BitsAsks
  have ll := hb.len
  have hr := hb.toRd
  refine IfB.dec (fun _ => aw6 (.refl h)) (fun hle => ?_)
  have hmax : l.length < 9223372036854775807 := by omega
  refine (Unvarint_spec hr hmax).mono ?_
  rintro _ _ ⟨rfl, rfl⟩
  refine ⟨_, _, rfl, ?_⟩
  refine (refUnvarint_spec hr hmax).mono ?_
  rintro _ _ ⟨rfl, rfl⟩
  refine ⟨_, _, rfl, ?_⟩
  refine (Get32_spec hr).mono ?_
  rintro _ _ ⟨rfl, rfl⟩
  refine ⟨_, _, rfl, ?_⟩
  refine (refGet_spec (n := 4) (by omega) hr).mono ?_
  rintro _ _ ⟨rfl, rfl⟩
  refine ⟨_, _, rfl, ?_⟩
  refine (Get64_spec hr).mono ?_
  rintro _ _ ⟨rfl, rfl⟩
  refine ⟨_, _, rfl, ?_⟩
  refine (refGet_spec (n := 8) (by omega) hr).mono ?_
  rintro _ h6 ⟨rfl, rfl⟩
  refine ⟨_, _, rfl, ?_⟩
  refine (Varint_spec v hv _).mono ?_
  rintro _ h7 ⟨a, rfl, o1, l1, e1⟩
  refine ⟨_, rfl, ?_⟩
  refine (refVarint_spec v hv _).mono ?_
  rintro _ h8 ⟨b, rfl, o2, l2, e2⟩
  refine ⟨_, rfl, ?_⟩
  refine (Bytes_spec (o1.ext e2).toRd o2.toRd (by have := vlen_le10 hv; unfold vlen at this; omega)).mono ?_
  rintro _ _ ⟨rfl, rfl⟩
  refine ⟨_, rfl, .yes (by simp) ?_⟩
  refine (Put32_spec w hw _).mono ?_
  rintro _ h9 ⟨c, rfl, o3, l3, e3⟩
  refine ⟨_, rfl, ?_⟩
  have ew : iConv .u64 (w : Int) = (w : Int) := by rw [iConv_nat u64s, Nat.mod_eq_of_lt (by simp only [IntKind.bits]; omega)]
  rw [ew]
  refine (refPut_spec w 4 (by omega) _).mono ?_
  rintro _ h10 ⟨d, rfl, o4, l4, e4⟩
  refine ⟨_, rfl, ?_⟩
  refine (Bytes_spec (o3.ext e4).toRd o4.toRd (by rw [leB_length]; omega)).mono ?_
  rintro _ _ ⟨rfl, rfl⟩
  refine ⟨_, rfl, .yes (by simp) ?_⟩
  refine (Put64_spec v hv _).mono ?_
  rintro _ h11 ⟨f, rfl, o5, l5, e5⟩
  refine ⟨_, rfl, ?_⟩
  refine (refPut_spec v 8 (by omega) _).mono ?_
  rintro _ h12 ⟨g, rfl, o6, l6, e6⟩
  refine ⟨_, rfl, ?_⟩
  refine (Bytes_spec (o5.ext e6).toRd o6.toRd (by rw [leB_length]; omega)).mono ?_
  rintro _ _ ⟨rfl, rfl⟩
  refine ⟨_, rfl, .yes (by simp) ?_⟩
  have ec : iConv .u64 ((getR 4 l).1 : Int) = ((getR 4 l).1 : Int) := by
    have := getR_lt 4 l
    rw [iConv_nat u64s, Nat.mod_eq_of_lt (by simp only [IntKind.bits]; omega)]
  rw [ec]
  refine .yes (by simp) (.yes (by simp) (.yes (by simp) (.yes (by simp) (.yes (by simp) (.yes (by simp) (aw6 ?_))))))
  exact ((((e1.trans e2).trans e3).trans e4).trans e5).trans e6
theorem BitsAsks_law {h : Hp} (s : Sl) (l : List Int) (w : InI .u8 h s l) (v : Int) (wv : (Lit.int .u64 v).wf = true) (u : Int) (wu : (Lit.int .u32 u).wf = true) :
    HCalls Try.prog fn_scarplaw6_BitsAsks #[.slice s.base s.len s.cap, .int .u64 v, .int .u32 u] h (Yes h) := by
  obtain ⟨bs, hb⟩ := w.bytes
  obtain ⟨n, rfl, hn⟩ := in_u64 wv
  obtain ⟨m, rfl, hm⟩ := in_u32 wu
  exact BitsAsks_spec hb n m hn hm

theorem emod_nat {k : Int} {n : Nat} (hn : 0 < n) : ∃ m : Nat, k % (n : Int) = m ∧ m < n := by
  have a1 := Int.emod_nonneg k (show (n : Int) ≠ 0 by omega)
  have a2 := Int.emod_lt_of_pos k (show (0 : Int) < (n : Int) by omega)
  exact ⟨(k % (n : Int)).toNat, by omega, by omega⟩
/-- 'append(append([]byte{}, a...), b...)'. -/
theorem App2 {e : Nat} {h : Hp} {s t : Sl} {a b : List UInt8} {K : Sl → Hp → Prop} (hs : Rd 1 h s (a.map bv)) (ht : Rd 1 h t (b.map bv)) (hm : a.length + b.length ≤ 1000000)
    (hK : ∀ r h', Own h.size 1 h' r ((a ++ b).map bv) → r.len = a.length + b.length → Ext h h' → K r h') :
    AppC e 1 1 #[.int .u8 (0 : Int)] (Sl.mk (some (nw h)) 0 0) s (alc h [] e) fun r1 h1 => AppC e 1 1 #[.int .u8 (0 : Int)] r1 t h1 K := by
  have ls := hs.lenB
  have lt := ht.lenB
  have o0 : Own h.size 1 (alc h [] e) ⟨some (nw h), 0, 0⟩ [] := Own.alc h [] e 0 1 rfl
  refine AppC_own (news := a.map bv) rfl o0 (by rw [size_alc]; omega) (by simpa using ls) (hs.ext (alc_ext _ _ _)).rd (cellOk_bv a) (by simp; omega) (by simp; omega) fun r1 h1 o1 l1 k1 _ => ?_
  have hk := ((alc_ext h [] e).toKeep).trans k1
  refine AppC_own (news := b.map bv) rfl o1 hk.size (by simpa using lt) (ht.ext hk.ext).rd (cellOk_bv b) (by rw [l1]; simp; omega) (by rw [l1]; simp; omega) fun r2 h2 o2 l2 k2 _ => ?_
  refine hK r2 h2 (by simpa using o2) (by rw [l2, l1]; simp; omega) (hk.trans k2).ext
theorem BitsBack_spec {h : Hp} {s : Sl} {l : List UInt8} (hb : InB h s l) (v w : Nat) (hv : v < 2 ^ 64) (hw : w < 2 ^ 32) (cut : Int) :
    HCalls Try.prog fn_scarplaw6_BitsBack #[.int .u64 (v : Int), .int .u32 (w : Int), .slice s.base s.len s.cap, .int .i64 cut] h (Yes h) := by
  apply scarplaw6_BitsBack_vc
  unfold vcscarplaw6_BitsBack
  have ll := hb.len
  have hr := hb.toRd
  have h10 := vlen_le10 hv
  have hpos := varintL_len_pos v
  have hvl : (varintL v).length = vlen v := rfl
  refine IfB.dec (fun _ => aw6 (.refl h)) (fun hle => ?_)
  refine (Varint_spec v hv h).mono ?_
  rintro _ h1 ⟨a, rfl, o1, l1, e1⟩
  refine ⟨_, rfl, ?_⟩
  refine (Put64_spec v hv h1).mono ?_
  rintro _ h2 ⟨b, rfl, o2, l2, e2⟩
  refine ⟨_, rfl, ?_⟩
  refine (Put32_spec w hw h2).mono ?_
  rintro _ h3 ⟨c, rfl, o3, l3, e3⟩
  refine ⟨_, rfl, ?_⟩
  rw [leB_length] at l2 l3
  have e03 := (e1.trans e2).trans e3
  refine App2 ((o1.ext e2).ext e3).toRd (hr.ext e03) (by omega) fun r4 h6 o4 l4 e4 => ?_
  have e06 := e03.trans e4
  refine (Unvarint_spec o4.toRd (by simp; omega)).mono ?_
  rintro _ _ ⟨rfl, rfl⟩
  rw [unvar_whole hv]
  refine ⟨_, _, rfl, ?_⟩
  refine App2 (((o2.ext e3).ext e4)).toRd (hr.ext e06) (by rw [leB_length]; omega) fun r5 h10' o5 l5 e5 => ?_
  refine (Get64_spec o5.toRd).mono ?_
  rintro _ _ ⟨rfl, rfl⟩
  have e010 := e06.trans e5
  have g64 : getR 8 (leB 8 v ++ l) = (v, true) := by
    unfold getR
    rw [if_neg (by rw [List.length_append, leB_length]; omega), List.take_append_of_le_length (by rw [leB_length]; omega), List.take_of_length_le (by rw [leB_length]; omega), leN_leB, Nat.mod_eq_of_lt (by omega)]
  rw [g64]
  refine ⟨_, _, rfl, ?_⟩
  refine App2 (((o3.ext e4).ext e5)).toRd (hr.ext e010) (by rw [leB_length]; omega) fun r6 h14 o6 l6 e6 => ?_
  refine (Get32_spec o6.toRd).mono ?_
  rintro _ h15 ⟨rfl, rfl⟩
  have e014 := e010.trans e6
  have g32 : getR 4 (leB 4 w ++ l) = (w, true) := by
    unfold getR
    rw [if_neg (by rw [List.length_append, leB_length]; omega), List.take_append_of_le_length (by rw [leB_length]; omega), List.take_of_length_le (by rw [leB_length]; omega), leN_leB, Nat.mod_eq_of_lt (by omega)]
  rw [g32]
  refine ⟨_, _, rfl, ?_⟩
  refine IfB.no (by simp) (IfB.no (by rw [l1, hvl]; simp) (IfB.no (by simp) (IfB.no (by simp) (IfB.no (by simp) (IfB.no (by simp) ?_)))))
  have ra := ((((o1.ext e2).ext e3).ext e4).ext e5).ext e6
  have rb := ((((o2.ext e3)).ext e4).ext e5).ext e6
  have rc := ((o3.ext e4).ext e5).ext e6
  have ca := ra.toRd.cap; have cb := rb.toRd.cap; have cc := rc.toRd.cap
  refine (Round_spec cut (a.len : Int) (by omega) (by omega) _).mono ?_
  rintro _ _ ⟨rfl, rfl⟩
  obtain ⟨k, hk, hk2⟩ := emod_nat (k := cut) (n := a.len) (by omega)
  rw [hk]
  refine ⟨_, rfl, by omega, by omega, by omega, by omega, ?_⟩
  have c1 := ra.toRd.cutB (lo := 0) (hi := k) (m := a.cap) (by omega) (by omega) (by omega)
  rw [List.drop_zero, Nat.sub_zero] at c1
  refine (Unvarint_spec c1 (by simp; omega)).mono ?_
  rintro _ _ ⟨rfl, rfl⟩
  rw [unvar_short v 0 0 k (by omega)]
  refine ⟨_, _, rfl, ?_⟩
  refine (Round_spec cut 8 (by omega) (by omega) _).mono ?_
  rintro _ _ ⟨rfl, rfl⟩
  obtain ⟨k2, hk3, hk4⟩ := emod_nat (k := cut) (n := 8) (by omega)
  rw [show cut % 8 = (k2 : Int) from hk3]
  refine ⟨_, rfl, by omega, by omega, by omega, by omega, ?_⟩
  have c2 := rb.toRd.cutB (lo := 0) (hi := k2) (m := b.cap) (by omega) (by omega) (by omega)
  rw [List.drop_zero, Nat.sub_zero] at c2
  refine (Get64_spec c2).mono ?_
  rintro _ _ ⟨rfl, rfl⟩
  have n64 : getR 8 ((leB 8 v).take k2) = (0, false) := by unfold getR; rw [if_pos (by rw [List.length_take, leB_length]; omega)]
  rw [n64]
  refine ⟨_, _, rfl, ?_⟩
  refine (Round_spec cut 4 (by omega) (by omega) _).mono ?_
  rintro _ _ ⟨rfl, rfl⟩
  obtain ⟨k3, hk5, hk6⟩ := emod_nat (k := cut) (n := 4) (by omega)
  rw [show cut % 4 = (k3 : Int) from hk5]
  refine ⟨_, rfl, by omega, by omega, by omega, by omega, ?_⟩
  have c3 := rc.toRd.cutB (lo := 0) (hi := k3) (m := c.cap) (by omega) (by omega) (by omega)
  rw [List.drop_zero, Nat.sub_zero] at c3
  refine (Get32_spec c3).mono ?_
  rintro _ _ ⟨rfl, rfl⟩
  have n32 : getR 4 ((leB 4 w).take k3) = (0, false) := by unfold getR; rw [if_pos (by rw [List.length_take, leB_length]; omega)]
  rw [n32]
  exact ⟨_, _, rfl, .yes rfl (.yes rfl (.yes rfl (aw6 e014)))⟩
theorem BitsBack_law {h : Hp} (v : Int) (wv : (Lit.int .u64 v).wf = true) (u : Int) (wu : (Lit.int .u32 u).wf = true) (s : Sl) (l : List Int) (w : InI .u8 h s l) (cut : Int) (_ : (Lit.int .i64 cut).wf = true) :
    HCalls Try.prog fn_scarplaw6_BitsBack #[.int .u64 v, .int .u32 u, .slice s.base s.len s.cap, .int .i64 cut] h (Yes h) := by
  obtain ⟨bs, hb⟩ := w.bytes
  obtain ⟨n, rfl, hn⟩ := in_u64 wv
  obtain ⟨m, rfl, hm⟩ := in_u32 wu
  exact BitsBack_spec hb n m hn hm cut

end Go.Proofs.Ytkakpeojhjifgaa
