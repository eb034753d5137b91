/-
  FrameBack (chapter 8).
-/
import Derived.Test.YtomeglmlhmpbhaaLaw8b
namespace Go.Proofs.Ytomeglmlhmpbhaa
set_option linter.unusedVariables false
set_option linter.unusedSimpArgs false

/-- one bit turned, in a row of one's own. -/
theorem turnB {lo : Nat} {h : Hp} {s : Sl} {q : List UInt8} (o : Own lo 1 h s (q.map bv)) {m : Nat} (hm : m < 8 * q.length) (hmb : m < 9223372036854775807) {K : Hp → Prop}
    (hK : ∀ h', Own lo 1 h' s ((q.set (m / 8) (q[m / 8]'(by omega) ^^^ (1 <<< UInt8.ofNat (m % 8)))).map bv) → Keep lo h h' → K h') :
    (8 : Int) ≠ 0 ∧
        (8 : Int) ≠ 0 ∧
        ∃ a : Addr, s.base = some a ∧ 0 ≤ (iQuo .i64 (m : Int) (8 : Int)) ∧ (iQuo .i64 (m : Int) (8 : Int)) < (s.len : Int) ∧
        ∃ c22 : Int, hcell h (a.add (((iQuo .i64 (m : Int) (8 : Int))).toNat * 1)) = some (.int .u8 c22) ∧
        (8 : Int) ≠ 0 ∧
        0 ≤ (iRem (m : Int) (8 : Int)) ∧
        ∃ a1 : Addr, s.base = some a1 ∧ 0 ≤ (iQuo .i64 (m : Int) (8 : Int)) ∧ (iQuo .i64 (m : Int) (8 : Int)) < (s.len : Int) ∧
        StOk h (a1.add (((iQuo .i64 (m : Int) (8 : Int))).toNat * 1)) ∧
        Lt (hset h (a1.add (((iQuo .i64 (m : Int) (8 : Int))).toNat * 1)) (.int .u8 (iXor .u8 c22 (iShl .u8 (1 : Int) (iRem (m : Int) (8 : Int)))))) K := by
  have hl := o.toRd.lenB
  have eq : iQuo .i64 (m : Int) (8 : Int) = ((m / 8 : Nat) : Int) := by
    rw [iQuo64 (by omega)]
    rfl
  have er : iRem (m : Int) (8 : Int) = ((m % 8 : Nat) : Int) := by
    rw [iRem_nn (by omega)]; push_cast; rfl
  rw [eq, er]
  refine ⟨by omega, by omega, ?_⟩
  refine ixB o.rd hl (m / 8) rfl (by omega) ?_
  refine ⟨by omega, by omega, ?_⟩
  obtain ⟨b, hb, _⟩ := o.rd.get (i := 0) (by rw [List.length_map]; omega)
  obtain ⟨ok1, o8, k8, _, s8⟩ := o.set hb (k := m / 8) (by rw [List.length_map]; omega) (bv (q[m / 8]'(by omega) ^^^ (1 <<< UInt8.ofNat (m % 8))))
  refine ⟨b, hb, by omega, by omega, ?_⟩
  rw [turn_val _ _ (by omega)]
  simp only [Int.toNat_natCast, Nat.mul_one]
  exact ⟨ok1, hK _ (by rw [List.map_set]; exact o8) k8⟩

theorem FrameBack_law {h : Hp} (a : Blk5) (bs : List UInt8) (w : InBlk h a bs) (bit : Int) (_ : (Lit.int .i64 bit).wf = true) (cut : Int) (_ : (Lit.int .i64 cut).wf = true) :
    HCalls Try.prog fn_scarplaw8_FrameBack #[.agg #[.int .i64 a.k, .int .i64 a.e, .int .i64 a.s, .int .i64 a.l, .slice a.b.base a.b.len a.b.cap], .int .i64 bit, .int .i64 cut] h (Yes h) := by
  apply scarplaw8_FrameBack_vc
  unfold vcscarplaw8_FrameBack
  intro h1
  have e1 : Ext h h1 := alc_ext _ _ _
  have r1 : Row h1 h.size (blkV a.k a.e a.s a.l a.b) := alc_row h _ _
  refine ⟨a.b, r1.get rfl, IfB.dec (fun _ => aw8 e1) (fun hle => r1.get5 ?_)⟩
  refine (made_spec a.k a.e a.s a.l a.b h1).mono ?_
  rintro _ h2 ⟨rfl, e2⟩
  refine ⟨_, _, _, _, a.b, rfl, ?_⟩
  have rb1 : Rd 1 h1 a.b (bs.map bv) := ⟨by simpa using w.b.len, w.b.cap, w.b.rd.ext e1⟩
  refine (Encode_spec a.k a.e a.s a.l (rb1.ext e2)).mono ?_
  rintro _ h3 ⟨e3, hr⟩
  have e13 := e2.trans e3
  have e03 := e1.trans e13
  rcases hr with ⟨hn, rfl⟩ | ⟨ok, hl, rfl⟩ | ⟨ok, hl, u, rfl, ou, lu⟩
  · exact ⟨Sl.nil, _, rfl, .yes rfl (.yes rfl (aw8 e03))⟩
  · exact ⟨Sl.nil, _, rfl, .yes rfl (.yes rfl (aw8 e03))⟩
  refine ⟨u, _, rfl, .no rfl (.no (by simp [lu]) ?_)⟩
  have hpre : (preL a.k.toNat a.e.toNat a.s.toNat a.l.toNat bs).length ≤ 60 := by rw [preL_length]; omega
  have hlen := encOf_length hpre
  have hsum := encOf_sumOk hpre
  have okn : okB (a.k.toNat : Int) (a.e.toNat : Int) (a.s.toNat : Int) (a.l.toNat : Int) := by
    obtain ⟨o1, o2, o3, o4⟩ := ok
    exact ⟨by omega, by omega, by omega, by omega⟩
  obtain ⟨g, gk, ge, gs, gl, gb⟩ := encL_good okn hl
  generalize encOf (preL a.k.toNat a.e.toNat a.s.toNat a.l.toNat bs) = q at *
  refine (Decode_spec ou.toRd).mono ?_
  rintro _ h5 d
  obtain ⟨e5, k, e, s, l, t, c, rfl, _, _, hc⟩ := d.shape
  obtain ⟨rfl, rfl, rfl, rfl, rfl, ot⟩ := hc hlen g
  refine ⟨_, _, _, _, t, _, rfl, ?_⟩
  intro h6
  refine put5 fun h7 e7 r7 => ?_
  have e37 := e5.trans e7
  intro h8
  refine cpB (ou.ext e37).toRd (by omega) fun s h9 o9 l9 e9 => ?_
  have e39 := e37.trans e9
  rw [show iMul .i64 (8 : Int) (s.len : Int) = (512 : Int) by rw [l9, hlen]; decide]
  refine (Round_spec bit 512 (by omega) (by omega) h9).mono ?_
  rintro _ _ ⟨rfl, rfl⟩
  obtain ⟨m, hm, hm2⟩ : ∃ m : Nat, bit % 512 = m ∧ m < 512 := ⟨(bit % 512).toNat, by omega, by omega⟩
  rw [hm]
  refine ⟨_, rfl, ?_⟩
  refine turnB o9 (m := m) (by omega) (by omega) fun h11 o11 k11 => ?_
  have e911 : Ext h7 h11 := (e9.toKeep.trans k11).ext
  refine (Decode_spec o11.toRd).mono ?_
  rintro _ h12 d2
  obtain ⟨e12, k2, e2', s2, l2, t2, c2, rfl, _, hc2, _⟩ := d2.shape
  have hc2' := hc2 (by simpa using hlen) (flip_bad hlen hsum hm2)
  subst hc2'
  refine ⟨k2, e2', s2, l2, t2, _, rfl, ?_⟩
  intro h13
  refine put5 fun h14 e14 _ => ?_
  have e714 := (e911.trans e12).trans e14
  rw [lu]
  refine (Round_spec cut 64 (by omega) (by omega) h14).mono ?_
  rintro _ _ ⟨rfl, rfl⟩
  obtain ⟨n, hn, hn2⟩ : ∃ n : Nat, cut % 64 = n ∧ n < 64 := ⟨(cut % 64).toNat, by omega, by omega⟩
  have hcap := ou.le
  rw [hn]
  refine ⟨_, rfl, by omega, by omega, by omega, by omega, ?_⟩
  have rq := (ou.ext (e37.trans e714)).toRd.cutB (lo := 0) (hi := n) (m := u.cap) (by omega) (by omega) (by omega)
  refine (Decode_spec rq).mono ?_
  rintro _ h16 d3
  obtain ⟨e16, k3, e3', s3, l3, t3, c3, rfl, hc3, _, _⟩ := d3.shape
  have hc3' := hc3 (by simp; omega)
  subst hc3'
  refine ⟨k3, e3', s3, l3, t3, _, rfl, ?_⟩
  intro h17
  refine put5 fun h18 e18 _ => ?_
  have e718 := (e714.trans e16).trans e18
  refine .yes rfl ((r7.ext e718).get5 ((r1.ext ((e13.trans e37).trans e718)).get5 ?_))
  refine (same_spec ((ot.ext (e7.trans e718)).toRd) (rb1.ext ((e13.trans e37).trans e718)) (by rw [gb]; omega)).mono ?_
  rintro _ h19 ⟨rfl, e19⟩
  obtain ⟨o1, o2, o3, o4⟩ := ok
  refine ⟨_, rfl, .yes (by rw [decide_eq_true]; exact ⟨by omega, by omega, by omega, by omega, gb⟩) (.yes rfl (.yes rfl (aw8 ((e03.trans e37).trans (e718.trans e19)))))⟩

end Go.Proofs.Ytomeglmlhmpbhaa
