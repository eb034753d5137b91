/-
  frame.Encode: a block as bytes.
-/
import Derived.Test.YtippdkokbhejmaaSlices
import Derived.Test.YtippdkokbhejmaaCrc0
namespace Go.Proofs.Ytippdkokbhejmaa
set_option linter.unusedVariables false
set_option linter.unusedSimpArgs false

theorem alc_get (h : Hp) (c : List Value) (t : Nat) {i : Nat} {v : Value} (hv : c[i]? = some v) : hcell (alc h c t) ((nw h).add i) = some v := by
  obtain ⟨a, ha, hc⟩ := RdC.alc h c t i v hv
  cases ha; exact hc
theorem alc_get0 (h : Hp) (c : List Value) (t : Nat) {v : Value} (hv : c[0]? = some v) : hcell (alc h c t) (nw h) = some v := by
  have := alc_get h c t hv; rwa [nw_add] at this
theorem within_spec (n lo hi : Int) (h : Hp) : HCalls Try.prog fn_frame_within #[.int .i64 n, .int .i64 lo, .int .i64 hi] h fun r h' => r = .bool (decide (lo ≤ n ∧ n ≤ hi)) ∧ h' = h := by
  apply frame_within_vc
  unfold vcframe_within
  refine IfB.dec (fun h1 => ⟨by simp [h1], rfl⟩) (fun h1 => ⟨by simp [h1], rfl⟩)
def covL (pre : List UInt8) : List UInt8 := pre ++ List.replicate (60 - pre.length) 0
def encOf (pre : List UInt8) : List UInt8 := covL pre ++ leB 4 (crcN (covL pre))
theorem covL_length {pre : List UInt8} (h : pre.length ≤ 60) : (covL pre).length = 60 := by simp [covL]; omega
theorem encOf_length {pre : List UInt8} (h : pre.length ≤ 60) : (encOf pre).length = 64 := by unfold encOf; rw [List.length_append, covL_length h, leB_length]
theorem Enc_tail {h0 h4 h8 : Hp} {a b c d e : Sl} {la lb lc ld le : List UInt8} (e04 : Ext h0 h4) (e48 : Ext h4 h8) (ra : Rd 1 h8 a (la.map bv)) (rb : Rd 1 h8 b (lb.map bv)) (rc : Rd 1 h8 c (lc.map bv)) (rd : Rd 1 h8 d (ld.map bv)) (re : Rd 1 h8 e (le.map bv))
    (hn : (la ++ lb ++ lc ++ ld ++ le).length ≤ 60) {R : Value → Hp → Prop}
    (hR : ∀ t h', Own h0.size 1 h' t ((encOf (la ++ lb ++ lc ++ ld ++ le)).map bv) → t.len = 64 → Ext h0 h' → R (.tuple #[.slice t.base t.len t.cap, .int .i64 (0 : Int)]) h') :
    let vh9 := alc h8 [.slice a.base a.len a.cap, .slice b.base b.len b.cap, .slice c.base c.len c.cap, .slice d.base d.len d.cap, .slice e.base e.len e.cap] ty_suint8;
              Ext h4 vh9 ∧
              HCalls Try.prog fn_slices_Concat_sbytebyte #[.slice (Sl.mk (some (nw h8)) 5 5).base (Sl.mk (some (nw h8)) 5 5).len (Sl.mk (some (nw h8)) 5 5).cap] vh9 fun r7 vh10 =>
              ∃ c18 : Sl, r7 = .slice c18.base c18.len c18.cap ∧
              Ext h4 vh10 ∧
              AppZ ty_uint8 1 1 #[.int .u8 (0 : Int)] c18 (iSub .i64 (60 : Int) (c18.len : Int)) vh10 fun s vh11 =>
              HCalls Try.prog fn_crc_Of #[.slice s.base s.len s.cap] vh11 fun r8 vh12 =>
              ∃ c19 : Int, r8 = .int .u32 c19 ∧
              HCalls Try.prog fn_bits_Put32 #[.int .u32 c19] vh12 fun r9 vh13 =>
              ∃ c20 : Sl, r9 = .slice c20.base c20.len c20.cap ∧
              AppC ty_uint8 1 1 #[.int .u8 (0 : Int)] s c20 vh13 fun s1 vh14 =>
              R (.tuple #[.slice s1.base s1.len s1.cap, .int .i64 (0 : Int)]) vh14 := by
  intro h9
  have e89 : Ext h8 h9 := alc_ext _ _ _
  have e49 := e48.trans e89
  refine ⟨e49, ?_⟩
  have hcat : catS [(a, la), (b, lb), (c, lc), (d, ld), (e, le)] = la ++ lb ++ lc ++ ld ++ le := by simp [catS]
  refine (slConcat_spec (s := Sl.mk (some (nw h8)) 5 5) (rows := [(a, la), (b, lb), (c, lc), (d, ld), (e, le)]) rfl (RdC.alc h8 _ _) ?_ (by simp) (by rw [hcat]; omega)).mono ?_
  · intro p hp
    simp only [List.mem_cons, List.not_mem_nil, or_false] at hp
    rcases hp with rfl | rfl | rfl | rfl | rfl
    · exact ra.ext e89
    · exact rb.ext e89
    · exact rc.ext e89
    · exact rd.ext e89
    · exact re.ext e89
  rintro _ h10 ⟨s, rfl, os, ls, e10⟩
  rw [hcat] at os ls
  have e410 := e49.trans e10
  have e010 := e04.trans e410
  refine ⟨_, rfl, e410, ?_⟩
  have os' : Own h0.size 1 h10 s ((la ++ lb ++ lc ++ ld ++ le).map bv) := os.weak (e04.trans e49).size
  generalize la ++ lb ++ lc ++ ld ++ le = pre at *
  refine AppZ_own (m := 60 - pre.length) (by rw [iSub64 (by omega)]; omega) os' e010.size rfl (by omega) (by omega) fun t h11 o11 l11 k11 _ => ?_
  have eq11 : pre.map bv ++ List.replicate (60 - pre.length) (.int .u8 (0 : Int)) = (covL pre).map bv := by
    unfold covL; rw [List.map_append, List.map_replicate]; rfl
  rw [eq11] at o11
  have e011 : Ext h0 h11 := (e010.toKeep.trans k11).ext
  have hcl := covL_length hn
  refine (crcOf_spec o11.toRd.lenB o11.rd (by omega)).mono ?_
  rintro _ h12 ⟨rfl, e12⟩
  refine ⟨_, rfl, ?_⟩
  refine (Put32_spec (crcN (covL pre)) (crcN_lt _) h12).mono ?_
  rintro _ h13 ⟨u, rfl, ou, lu, e13⟩
  refine ⟨_, rfl, ?_⟩
  rw [leB_length] at lu
  have e013 := (e011.trans e12).trans e13
  refine AppC_own (news := (leB 4 (crcN (covL pre))).map bv) rfl ((o11.ext e12).ext e13) e013.size (by simp [leB_length, lu]) ou.rd (cellOk_bv _) (by omega) (by omega) fun r h14 o14 l14 k14 _ => ?_
  rw [← List.map_append] at o14
  exact hR r h14 o14 (by omega) (e013.toKeep.trans k14).ext
/-- what bears a block's numbers. -/
def okB (k e s l : Int) : Prop := (1 ≤ k ∧ k ≤ 4) ∧ (0 ≤ e ∧ e ≤ 4294967295) ∧ (0 ≤ s ∧ s ≤ 1099511627776) ∧ (0 ≤ l ∧ l ≤ 1048576)
instance (k e s l : Int) : Decidable (okB k e s l) := by unfold okB; infer_instance
def preL (k e s l : Nat) (bs : List UInt8) : List UInt8 := [UInt8.ofNat k, UInt8.ofNat bs.length] ++ leB 4 e ++ leB 8 s ++ leB 4 l ++ bs
theorem preL_length (k e s l : Nat) (bs : List UInt8) : (preL k e s l bs).length = 18 + bs.length := by simp [preL, leB_length]; omega
def EncR (h : Hp) (k e s l : Int) (bs : List UInt8) (r : Value) (h' : Hp) : Prop :=
  Ext h h' ∧ (¬ okB k e s l ∧ r = .tuple #[.slice none 0 0, .int .i64 1] ∨ okB k e s l ∧ 40 < bs.length ∧ r = .tuple #[.slice none 0 0, .int .i64 3] ∨
    okB k e s l ∧ bs.length ≤ 40 ∧ ∃ t : Sl, r = .tuple #[.slice t.base t.len t.cap, .int .i64 0] ∧ Own h.size 1 h' t ((encOf (preL k.toNat e.toNat s.toNat l.toNat bs)).map bv) ∧ t.len = 64)
theorem two_new (h : Hp) (k n : Nat) : Rd 1 (alc h [.int .u8 (iConv .u8 (k : Int)), .int .u8 (iConv .u8 (n : Int))] ty_uint8) (Sl.mk (some (nw h)) 2 2) ([UInt8.ofNat k, UInt8.ofNat n].map bv) := by
  refine ⟨rfl, Nat.le_refl _, ?_⟩
  rw [bv_conv, bv_conv]
  exact RdC.alc h _ _
theorem Encode_spec (k e s l : Int) {h : Hp} {b : Sl} {bs : List UInt8} (hb : Rd 1 h b (bs.map bv)) :
    HCalls Try.prog fn_frame_Encode #[.agg #[.int .i64 k, .int .i64 e, .int .i64 s, .int .i64 l, .slice b.base b.len b.cap]] h (EncR h k e s l bs) := by
  apply frame_Encode_vc
  unfold vcframe_Encode
  intro h1
  have e1 : Ext h h1 := alc_ext _ _ _
  have lb := hb.lenB
  refine ⟨_, alc_get0 h _ _ rfl, ?_⟩
  refine (within_spec _ _ _ _).mono ?_
  rintro _ _ ⟨rfl, rfl⟩
  refine ⟨_, rfl, IfB.not (IfB.dec (fun hk => ?_) (fun hk => ⟨e1, .inl ⟨fun ok => hk ok.1, rfl⟩⟩))⟩
  refine ⟨_, alc_get h _ _ (i := 1) rfl, ?_⟩
  refine (within_spec _ _ _ _).mono ?_
  rintro _ _ ⟨rfl, rfl⟩
  refine ⟨_, rfl, IfB.not (IfB.dec (fun he => ?_) (fun he => ⟨e1, .inl ⟨fun ok => he ok.2.1, rfl⟩⟩))⟩
  refine ⟨_, alc_get h _ _ (i := 2) rfl, ?_⟩
  refine (within_spec _ _ _ _).mono ?_
  rintro _ _ ⟨rfl, rfl⟩
  refine ⟨_, rfl, IfB.not (IfB.dec (fun hs => ?_) (fun hs => ⟨e1, .inl ⟨fun ok => hs ok.2.2.1, rfl⟩⟩))⟩
  refine ⟨_, alc_get h _ _ (i := 3) rfl, ?_⟩
  refine (within_spec _ _ _ _).mono ?_
  rintro _ _ ⟨rfl, rfl⟩
  refine ⟨_, rfl, IfB.not (IfB.dec (fun hl => ?_) (fun hl => ⟨e1, .inl ⟨fun ok => hl ok.2.2.2, rfl⟩⟩))⟩
  have ok : okB k e s l := ⟨hk, he, hs, hl⟩
  have c4 : hcell h1 ((nw h).add 4) = some (.slice b.base b.len b.cap) := alc_get h _ _ (i := 4) rfl
  refine ⟨b, c4, IfB.dec (fun h40 => ⟨e1, .inr (.inl ⟨ok, by omega, rfl⟩)⟩) (fun h40 => ?_)⟩
  refine ⟨_, alc_get0 h _ _ rfl, b, c4, _, alc_get h _ _ (i := 1) rfl, _, alc_get h _ _ (i := 2) rfl, _, alc_get h _ _ (i := 3) rfl, b, c4, ?_⟩
  obtain ⟨k, rfl⟩ : ∃ n : Nat, k = n := ⟨k.toNat, by omega⟩
  obtain ⟨e, rfl⟩ : ∃ n : Nat, e = n := ⟨e.toNat, by omega⟩
  obtain ⟨s, rfl⟩ : ∃ n : Nat, s = n := ⟨s.toNat, by omega⟩
  obtain ⟨l, rfl⟩ : ∃ n : Nat, l = n := ⟨l.toNat, by omega⟩
  have ce : iConv .u32 (e : Int) = (e : Int) := by rw [iConv_nat u32s, Nat.mod_eq_of_lt (by simp only [IntKind.bits]; omega)]
  have cs : iConv .u64 (s : Int) = (s : Int) := by rw [iConv_nat u64s, Nat.mod_eq_of_lt (by simp only [IntKind.bits]; omega)]
  have cl : iConv .u32 (l : Int) = (l : Int) := by rw [iConv_nat u32s, Nat.mod_eq_of_lt (by simp only [IntKind.bits]; omega)]
  rw [ce, cs, cl]
  have hpre := preL_length k e s l bs
  have hn : ([UInt8.ofNat k, UInt8.ofNat b.len] ++ leB 4 e ++ leB 8 s ++ leB 4 l ++ bs).length ≤ 60 := by simp [leB_length]; omega
  have fin : ∀ (t : Sl) (h' : Hp), Own h.size 1 h' t ((encOf ([UInt8.ofNat k, UInt8.ofNat b.len] ++ leB 4 e ++ leB 8 s ++ leB 4 l ++ bs)).map bv) → t.len = 64 → Ext h h' → EncR h (k : Int) (e : Int) (s : Int) (l : Int) bs (.tuple #[.slice t.base t.len t.cap, .int .i64 (0 : Int)]) h' := fun t h' o lt ex =>
    ⟨ex, .inr (.inr ⟨ok, by omega, t, rfl, by rw [← lb] at o; exact o, lt⟩)⟩
  have hb1 := hb.ext e1
  refine ⟨?_, ?_⟩
  · intro h5
    have e5 : Ext h1 h5 := alc_ext _ _ _
    refine ⟨e5, (Put32_spec e (by omega) h5).mono ?_⟩
    rintro _ h6 ⟨x, rfl, ox, lx, e6⟩
    refine ⟨_, rfl, e5.trans e6, (Put64_spec s (by omega) h6).mono ?_⟩
    rintro _ h7 ⟨y, rfl, oy, ly, e7⟩
    refine ⟨_, rfl, (e5.trans e6).trans e7, (Put32_spec l (by omega) h7).mono ?_⟩
    rintro _ h8 ⟨z, rfl, oz, lz, e8⟩
    refine ⟨_, rfl, ((e5.trans e6).trans e7).trans e8, ?_⟩
    exact Enc_tail e1 (((e5.trans e6).trans e7).trans e8) ((two_new h1 k b.len).ext ((e6.trans e7).trans e8)) (ox.ext (e7.trans e8)).toRd (oy.ext e8).toRd oz.toRd (hb1.ext (((e5.trans e6).trans e7).trans e8)) hn fin
  · refine (Put32_spec e (by omega) h1).mono ?_
    rintro _ h6 ⟨x, rfl, ox, lx, e6⟩
    refine ⟨_, rfl, e6, ?_, ?_⟩
    · intro h5
      have e5 : Ext h6 h5 := alc_ext _ _ _
      refine ⟨e6.trans e5, (Put64_spec s (by omega) h5).mono ?_⟩
      rintro _ h7 ⟨y, rfl, oy, ly, e7⟩
      refine ⟨_, rfl, (e6.trans e5).trans e7, (Put32_spec l (by omega) h7).mono ?_⟩
      rintro _ h8 ⟨z, rfl, oz, lz, e8⟩
      refine ⟨_, rfl, ((e6.trans e5).trans e7).trans e8, ?_⟩
      exact Enc_tail e1 (((e6.trans e5).trans e7).trans e8) ((two_new h6 k b.len).ext (e7.trans e8)) (ox.ext ((e5.trans e7).trans e8)).toRd (oy.ext e8).toRd oz.toRd (hb1.ext (((e6.trans e5).trans e7).trans e8)) hn fin
    · refine (Put64_spec s (by omega) h6).mono ?_
      rintro _ h7 ⟨y, rfl, oy, ly, e7⟩
      refine ⟨_, rfl, e6.trans e7, ?_, ?_⟩
      · intro h5
        have e5 : Ext h7 h5 := alc_ext _ _ _
        refine ⟨(e6.trans e7).trans e5, (Put32_spec l (by omega) h5).mono ?_⟩
        rintro _ h8 ⟨z, rfl, oz, lz, e8⟩
        refine ⟨_, rfl, ((e6.trans e7).trans e5).trans e8, ?_⟩
        exact Enc_tail e1 (((e6.trans e7).trans e5).trans e8) ((two_new h7 k b.len).ext e8) (ox.ext ((e7.trans e5).trans e8)).toRd (oy.ext (e5.trans e8)).toRd oz.toRd (hb1.ext (((e6.trans e7).trans e5).trans e8)) hn fin
      · refine (Put32_spec l (by omega) h7).mono ?_
        rintro _ h8 ⟨z, rfl, oz, lz, e8⟩
        refine ⟨_, rfl, (e6.trans e7).trans e8, ?_⟩
        intro h5
        have e5 : Ext h8 h5 := alc_ext _ _ _
        refine ⟨((e6.trans e7).trans e8).trans e5, ?_⟩
        exact Enc_tail e1 (((e6.trans e7).trans e8).trans e5) (two_new h8 k b.len) (ox.ext ((e7.trans e8).trans e5)).toRd (oy.ext (e8.trans e5)).toRd (oz.ext e5).toRd (hb1.ext (((e6.trans e7).trans e8).trans e5)) hn fin

end Go.Proofs.Ytippdkokbhejmaa
