/-
  FrameApart (chapter 8).
-/
import Derived.Test.YtomeglmlhmpbhaaLaw8c
namespace Go.Proofs.Ytomeglmlhmpbhaa
set_option linter.unusedVariables false
set_option linter.unusedSimpArgs false

theorem EncR.shape {h h' : Hp} {k e s l : Int} {bs : List UInt8} {r : Value} (x : EncR h k e s l bs r h') : Ext h h' ∧ ∃ (t : Sl) (c : Int), r = .tuple #[.slice t.base t.len t.cap, .int .i64 c] ∧
    (c = 0 → okB k e s l ∧ bs.length ≤ 40 ∧ Own h.size 1 h' t ((encOf (preL k.toNat e.toNat s.toNat l.toNat bs)).map bv) ∧ t.len = 64) ∧ (okB k e s l → bs.length ≤ 40 → c = 0) := by
  obtain ⟨ex, ⟨hn, rfl⟩ | ⟨hn, hg, rfl⟩ | ⟨hn, hg, t, rfl, ot, lt⟩⟩ := x
  · exact ⟨ex, Sl.nil, 1, rfl, fun h => by omega, fun h => absurd h hn⟩
  · exact ⟨ex, Sl.nil, 3, rfl, fun h => by omega, fun _ h => by omega⟩
  · exact ⟨ex, t, 0, rfl, fun _ => ⟨hn, hg, ot, lt⟩, fun _ _ => rfl⟩
theorem okB_nat {k e s l : Int} (ok : okB k e s l) : okB (k.toNat : Int) (e.toNat : Int) (s.toNat : Int) (l.toNat : Int) := by
  obtain ⟨o1, o2, o3, o4⟩ := ok
  exact ⟨by omega, by omega, by omega, by omega⟩
/-- what two blocks are written as is the same where they are. -/
theorem enc_inj {k e s l k' e' s' l' : Int} {a b : List UInt8} (ok : okB k e s l) (ok' : okB k' e' s' l') (ha : a.length ≤ 40) (hb : b.length ≤ 40) :
    encOf (preL k.toNat e.toNat s.toNat l.toNat a) = encOf (preL k'.toNat e'.toNat s'.toNat l'.toNat b) ↔ (k = k' ∧ e = e' ∧ s = s' ∧ l = l' ∧ a = b) := by
  constructor
  · intro h
    obtain ⟨_, g1, g2, g3, g4, g5⟩ := encL_good (okB_nat ok) ha
    obtain ⟨_, f1, f2, f3, f4, f5⟩ := encL_good (okB_nat ok') hb
    rw [← h] at f1 f2 f3 f4 f5
    obtain ⟨o1, o2, o3, o4⟩ := ok
    obtain ⟨p1, p2, p3, p4⟩ := ok'
    exact ⟨by omega, by omega, by omega, by omega, g5.symm.trans f5⟩
  · rintro ⟨rfl, rfl, rfl, rfl, rfl⟩; rfl
theorem enc_plain {k e s l : Int} {a : List UInt8} (ok : okB k e s l) : ((encOf (preL k.toNat e.toNat s.toNat l.toNat a)).any fun c => (c.toNat : Int) != 0) = true := by
  have g0 := encOf_get0 k.toNat e.toNat s.toNat l.toNat a
  obtain ⟨hlt, hg⟩ := List.getElem?_eq_some_iff.1 g0
  refine List.any_eq_true.2 ⟨_, List.getElem_mem hlt, ?_⟩
  rw [hg]
  have := ok.1
  simp; omega

theorem FrameApart_law {h : Hp} (a : Blk5) (as_ : List UInt8) (w : InBlk h a as_) (b : Blk5) (bs : List UInt8) (w' : InBlk h b bs) :
    HCalls Try.prog fn_scarplaw8_FrameApart #[.agg #[.int .i64 a.k, .int .i64 a.e, .int .i64 a.s, .int .i64 a.l, .slice a.b.base a.b.len a.b.cap], .agg #[.int .i64 b.k, .int .i64 b.e, .int .i64 b.s, .int .i64 b.l, .slice b.b.base b.b.len b.b.cap]] h (Yes h) := by
  apply scarplaw8_FrameApart_vc
  unfold vcscarplaw8_FrameApart
  intro h0 h1
  have e0 : Ext h h0 := alc_ext _ _ _
  have e01 : Ext h0 h1 := alc_ext _ _ _
  have e1 := e0.trans e01
  have ra : Row h1 h.size (blkV a.k a.e a.s a.l a.b) := (alc_row h _ _).ext e01
  have rb : Row h1 h0.size (blkV b.k b.e b.s b.l b.b) := alc_row h0 _ _
  have rda : Rd 1 h1 a.b (as_.map bv) := ⟨by simpa using w.b.len, w.b.cap, w.b.rd.ext e1⟩
  have rdb : Rd 1 h1 b.b (bs.map bv) := ⟨by simpa using w'.b.len, w'.b.cap, w'.b.rd.ext e1⟩
  have la := rda.lenB
  have lb := rdb.lenB
  refine ⟨a.b, ra.get rfl, IfB.dec (fun _ => aw8 e1) (fun h39 => ⟨b.b, rb.get rfl, IfB.dec (fun _ => aw8 e1) (fun h300 => ra.get5 ?_)⟩)⟩
  refine (made_spec a.k a.e a.s a.l a.b h1).mono ?_
  rintro _ h2 ⟨rfl, e2⟩
  refine ⟨_, _, _, _, a.b, rfl, ?_⟩
  refine (Encode_spec a.k a.e a.s a.l (rda.ext e2)).mono ?_
  rintro _ h3 xa
  obtain ⟨e3, ta, ca, rfl, ga, ga'⟩ := xa.shape
  have e13 := e2.trans e3
  refine ⟨ta, ca, rfl, (rb.ext e13).get5 ?_⟩
  refine (made_spec b.k b.e b.s b.l b.b h3).mono ?_
  rintro _ h4 ⟨rfl, e4⟩
  refine ⟨_, _, _, _, b.b, rfl, ?_⟩
  have e14 := e13.trans e4
  refine (Encode_spec b.k b.e b.s b.l (rdb.ext e14)).mono ?_
  rintro _ h5 xb
  obtain ⟨e5, tb, cb, rfl, gb, gb'⟩ := xb.shape
  have e15 := e14.trans e5
  refine ⟨tb, cb, rfl, IfB.ne (fun _ => aw8 (e1.trans e15)) (fun ha0 => IfB.ne (fun _ => aw8 (e1.trans e15)) (fun hb0 => ?_))⟩
  obtain ⟨oka, ha40, oa, lta⟩ := ga ha0
  obtain ⟨okb, hb40, ob, ltb⟩ := gb hb0
  refine (ra.ext e15).get5 ?_
  intro h6
  refine put5 fun h7 e7 r7 => ?_
  intro h8
  have e8 : Ext h7 h8 := alc_ext _ _ _
  have e17 := e15.trans e7
  refine ⟨a.b, (ra.ext (e17.trans e8)).get rfl, ?_⟩
  refine cpB (rda.ext e17) (by omega) fun s h9 o9 l9 e9 => ?_
  intro h10
  have s9 : s.len = as_.length := l9
  refine AppC_new (lo := h7.size) (l := as_.map bv) (news := [bv 0]) (n := 1) rfl o9 e9.size rfl (by simp [bv, cellOk]) (by omega) (by omega) fun s1 h11 o11 l11 k11 _ => ?_
  have e711 := (e9.toKeep.trans k11).ext
  have r11 := r7.ext e711
  obtain ⟨ok4, r12, x12, z12⟩ := r11.set (i := 4) (by simp [blkV]) (.slice s1.base s1.len s1.cap)
  refine ⟨ok4, ?_⟩
  generalize hh : hset h11 ((nw h5).add 4) (.slice s1.base s1.len s1.cap) = h12
  have hh' : hset h11 ((⟨h5.size, 0, none⟩ : Addr).add 4) (.slice s1.base s1.len s1.cap) = h12 := hh
  rw [hh'] at r12 x12 z12
  have r12' : Row h12 h5.size (blkV a.k a.e a.s a.l s1) := r12
  have e512 : Ext h5 h12 := ⟨by have := e7.size; have := e711.size; omega, fun k hk => by rw [x12 k (by omega), e711.block k (Nat.lt_of_lt_of_le hk e7.size), e7.block k hk]⟩
  have e112 := e15.trans e512
  have o12 : Own h7.size 1 h12 s1 ((as_ ++ [0]).map bv) := by
    have : (as_ ++ [0]).map bv = as_.map bv ++ [bv 0] := by simp
    rw [this]
    refine o11.eq fun q hq => x12 _ ?_
    have h1 := (o11.lt hq).1
    have h2 := r7.lt
    omega
  refine r12'.get5 ?_
  refine (made_spec a.k a.e a.s a.l s1 h12).mono ?_
  rintro _ h13 ⟨rfl, e13'⟩
  refine ⟨_, _, _, _, s1, rfl, ?_⟩
  refine (Encode_spec a.k a.e a.s a.l (o12.ext e13').toRd).mono ?_
  rintro _ h14 xc
  obtain ⟨e14', tc, cc, rfl, gc, gc'⟩ := xc.shape
  have hc0 := gc' oka (by simp; omega)
  subst hc0
  obtain ⟨_, hc40, oc, ltc⟩ := gc rfl
  have e514 := (e512.trans e13').trans e14'
  have e114 := e15.trans e514
  refine ⟨tc, _, rfl, (ra.ext e114).get5 ((rb.ext e114).get5 ?_)⟩
  have pa := preL_length a.k.toNat a.e.toNat a.s.toNat a.l.toNat as_
  have pl := encOf_length (pre := preL a.k.toNat a.e.toNat a.s.toNat a.l.toNat as_) (by omega)
  have oa' := (oa.ext (e4.trans (e5.trans e514))).toRd
  refine (Bytes_spec oa' (ob.ext e514).toRd (by omega)).mono ?_
  rintro _ _ ⟨rfl, rfl⟩
  refine ⟨_, rfl, .refl _, ?_⟩
  refine (made_spec a.k a.e a.s a.l a.b _).mono ?_
  rintro _ h15 ⟨rfl, e15'⟩
  refine ⟨_, _, _, _, a.b, rfl, e15', ?_⟩
  refine (same_spec (rda.ext (e114.trans e15')) (rdb.ext (e114.trans e15')) (by omega)).mono ?_
  rintro _ h16 ⟨rfl, e16⟩
  have e1416 := e15'.trans e16
  refine ⟨_, rfl, e1416, .yes ?_ (.yes rfl ?_)⟩
  · rw [beq_iff_eq]
    exact decide_eq_decide.2 (enc_inj oka okb ha40 hb40)
  refine (Bytes_spec (oa'.ext e1416) (oc.ext e1416).toRd (by omega)).mono ?_
  rintro _ _ ⟨rfl, rfl⟩
  refine ⟨_, rfl, e1416, .yes ?_ ?_⟩
  · rw [Bool.not_eq_true', decide_eq_false_iff_not, enc_inj oka oka ha40 (by simp; omega)]
    rintro ⟨_, _, _, _, hbad⟩
    have := congrArg List.length hbad
    simp at this
  refine (Plain_spec (oa'.ext e1416) (by omega)).mono ?_
  rintro _ _ ⟨rfl, rfl⟩
  refine ⟨_, rfl, e1416, .yes (by rw [enc_plain oka]; simp) ?_⟩
  refine (awake8_spec _).mono ?_
  rintro _ h17 ⟨rfl, e17'⟩
  exact ⟨_, rfl, e1416.trans e17', rfl, (e1.trans e114).trans (e1416.trans e17')⟩

end Go.Proofs.Ytomeglmlhmpbhaa
