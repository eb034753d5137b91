/-
  scarpref6.Encode.
-/
import Derived.Test.YtehhkjgcklhfcaaFrameV
import Derived.Test.YtehhkjgcklhfcaaRef0
import Derived.Test.YtehhkjgcklhfcaaCrcRef
namespace Go.Proofs.Ytehhkjgcklhfcaa
set_option linter.unusedVariables false
set_option linter.unusedSimpArgs false

theorem refEncode_spec (k e s l : Int) {h : Hp} {b : Sl} {bs : List UInt8} (hb : Rd 1 h b (bs.map bv)) :
    HCalls Try.prog fn_scarpref6_Encode #[.agg #[.int .i64 k, .int .i64 e, .int .i64 s, .int .i64 l, .slice b.base b.len b.cap]] h (EncR h k e s l bs) := by
  apply scarpref6_Encode_vc
  unfold vcscarpref6_Encode
  intro h1
  have e1 : Ext h h1 := alc_ext _ _ _
  have lb := hb.lenB
  have r1 : Row h1 h.size (blkV k e s l b) := alc_row h _ _
  have no : ∀ {c : Prop}, (okB k e s l → False) → EncR h k e s l bs (.tuple #[.slice Sl.nil.base Sl.nil.len Sl.nil.cap, .int .i64 (1 : Int)]) h1 := fun hn => ⟨e1, .inl ⟨hn, rfl⟩⟩
  refine ⟨k, r1.get0 rfl, IfB.dec (fun hh => no (c := True) fun ok => by have := ok.1; omega) (fun hk1 => ?_)⟩
  refine ⟨k, r1.get0 rfl, IfB.dec (fun hh => no (c := True) fun ok => by have := ok.1; omega) (fun hk2 => ?_)⟩
  refine ⟨e, r1.get rfl, IfB.dec (fun hh => no (c := True) fun ok => by have := ok.2.1; omega) (fun he1 => ?_)⟩
  refine ⟨e, r1.get rfl, IfB.dec (fun hh => no (c := True) fun ok => by have := ok.2.1; omega) (fun he2 => ?_)⟩
  refine ⟨s, r1.get rfl, IfB.dec (fun hh => no (c := True) fun ok => by have := ok.2.2.1; omega) (fun hs1 => ?_)⟩
  refine ⟨s, r1.get rfl, IfB.dec (fun hh => no (c := True) fun ok => by have := ok.2.2.1; omega) (fun hs2 => ?_)⟩
  refine ⟨l, r1.get rfl, IfB.dec (fun hh => no (c := True) fun ok => by have := ok.2.2.2; omega) (fun hl1 => ?_)⟩
  refine ⟨l, r1.get rfl, IfB.dec (fun hh => no (c := True) fun ok => by have := ok.2.2.2; omega) (fun hl2 => ?_)⟩
  have ok : okB k e s l := ⟨by omega, by omega, by omega, by omega⟩
  refine ⟨b, r1.get rfl, IfB.dec (fun h40 => ⟨e1, .inr (.inl ⟨ok, by omega, rfl⟩)⟩) (fun h40 => ?_)⟩
  refine ⟨k, r1.get0 rfl, b, r1.get rfl, ?_⟩
  obtain ⟨k, rfl⟩ : ∃ n : Nat, k = n := ⟨k.toNat, by omega⟩
  obtain ⟨e, rfl⟩ : ∃ n : Nat, e = n := ⟨e.toNat, by omega⟩
  obtain ⟨s, rfl⟩ : ∃ n : Nat, s = n := ⟨s.toNat, by omega⟩
  obtain ⟨l, rfl⟩ : ∃ n : Nat, l = n := ⟨l.toNat, by omega⟩
  have cv : ∀ n : Nat, n < 2 ^ 64 → iConv .u64 (n : Int) = (n : Int) := fun n hn => by rw [iConv_nat u64s, Nat.mod_eq_of_lt (by simp only [IntKind.bits]; omega)]
  intro h2
  have e2 : Ext h1 h2 := alc_ext _ _ _
  have s1 : h.size < h1.size := by show h.size < (alc h _ _).size; rw [size_alc]; omega
  have o2 : Own h1.size 1 h2 (Sl.mk (some (nw h1)) 2 2) ([UInt8.ofNat k, UInt8.ofNat b.len].map bv) := by
    have := Own.alc h1 [.int .u8 (iConv .u8 (k : Int)), .int .u8 (iConv .u8 (b.len : Int))] ty_uint8 2 1 rfl
    have e0 : ([UInt8.ofNat k, UInt8.ofNat b.len].map bv) = [.int .u8 (iConv .u8 (k : Int)), .int .u8 (iConv .u8 (b.len : Int))] := by rw [bv_conv, bv_conv]; rfl
    rw [e0]; exact this
  have row : ∀ {h' : Hp}, Keep h1.size h1 h' → Row h' h.size (blkV k e s l b) := fun kk => r1.eq (kk.block _ s1)
  have kk2 := e2.toKeep
  refine ⟨e, (row kk2).get rfl, ?_⟩
  rw [cv e (by omega)]
  refine (refPut_spec e 4 (by omega) h2).mono ?_
  rintro _ h3 ⟨x, rfl, ox, lx, e3⟩
  rw [leB_length] at lx
  refine ⟨_, rfl, ?_⟩
  have kk3 := kk2.trans (e3.keep kk2.size)
  refine AppC_own (news := (leB 4 e).map bv) rfl (o2.ext e3) kk3.size (by simp [leB_length, lx]) ox.rd (cellOk_bv _) (by simp only; omega) (by simp only; omega) fun s4 h4 o4 l4 k4 _ => ?_
  have kk4 := kk3.trans k4
  rw [← List.map_append] at o4
  refine ⟨s, (row kk4).get rfl, ?_⟩
  rw [cv s (by omega)]
  refine (refPut_spec s 8 (by omega) h4).mono ?_
  rintro _ h5 ⟨y, rfl, oy, ly, e5⟩
  rw [leB_length] at ly
  refine ⟨_, rfl, ?_⟩
  have kk5 := kk4.trans (e5.keep kk4.size)
  simp only at l4
  refine AppC_own (news := (leB 8 s).map bv) rfl (o4.ext e5) kk5.size (by simp [leB_length, ly]) oy.rd (cellOk_bv _) (by omega) (by omega) fun s6 h6 o6 l6 k6 _ => ?_
  have kk6 := kk5.trans k6
  rw [← List.map_append] at o6
  refine ⟨l, (row kk6).get rfl, ?_⟩
  rw [cv l (by omega)]
  refine (refPut_spec l 4 (by omega) h6).mono ?_
  rintro _ h7 ⟨z, rfl, oz, lz, e7⟩
  rw [leB_length] at lz
  refine ⟨_, rfl, ?_⟩
  have kk7 := kk6.trans (e7.keep kk6.size)
  refine AppC_own (news := (leB 4 l).map bv) rfl (o6.ext e7) kk7.size (by simp [leB_length, lz]) oz.rd (cellOk_bv _) (by omega) (by omega) fun s8 h8 o8 l8 k8 _ => ?_
  have kk8 := kk7.trans k8
  rw [← List.map_append] at o8
  refine ⟨b, (row kk8).get rfl, ?_⟩
  refine AppC_own (news := bs.map bv) rfl o8 kk8.size (by simpa using lb) (hb.ext (e1.trans kk8.ext)).rd (cellOk_bv _) (by omega) (by omega) fun s9 h9 o9 l9 k9 _ => ?_
  have kk9 := kk8.trans k9
  rw [← List.map_append] at o9
  have epre : [UInt8.ofNat k, UInt8.ofNat b.len] ++ leB 4 e ++ leB 8 s ++ leB 4 l ++ bs = preL k e s l bs := by rw [← lb]; rfl
  rw [epre] at o9
  have hpl := preL_length k e s l bs
  generalize hpre : preL k e s l bs = pre at *
  refine ⟨fun p m h' => ∃ q : Nat, m + q = 60 ∧ pre.length ≤ q ∧ Keep h1.size h1 h' ∧ Own h1.size 1 h' p ((pre ++ List.replicate (q - pre.length) 0).map bv), 60 - pre.length, ⟨pre.length, by omega, Nat.le_refl _, kk9, by simpa using o9⟩, ?_⟩
  rintro _ p m h10 ⟨q, hm, hq, kk10, o10⟩
  have lp := o10.toRd.lenB
  rw [List.length_append, List.length_replicate] at lp
  refine IfB.dec (fun hlt => ?_) (fun hge => ?_)
  · intro h11
    refine AppC_new (lo := h1.size) (l := (pre ++ List.replicate (q - pre.length) 0).map bv) (news := [bv 0]) (n := 1) rfl o10 kk10.size rfl (by simp [bv, cellOk]) (by omega) (by omega) fun r h12 o12 l12 k12 _ => ?_
    refine ⟨m - 1, by omega, q + 1, by omega, by omega, kk10.trans k12, ?_⟩
    have : (pre ++ List.replicate (q - pre.length) 0).map bv ++ [bv 0] = (pre ++ List.replicate (q + 1 - pre.length) 0).map bv := by
      rw [show q + 1 - pre.length = (q - pre.length) + 1 by omega, List.replicate_succ']
      simp
    rw [← this]; exact o12
  · have hq60 : q = 60 := by omega
    subst hq60
    have hcov : pre ++ List.replicate (60 - pre.length) 0 = covL pre := rfl
    rw [hcov] at o10
    have hcl := covL_length (pre := pre) (by omega)
    refine (refCrc_spec o10.toRd.lenB o10.rd (by omega)).mono ?_
    rintro _ _ ⟨rfl, rfl⟩
    have hlt := crcN_lt (covL pre)
    refine ⟨_, rfl, ?_⟩
    rw [cv _ (by omega)]
    refine (refPut_spec (crcN (covL pre)) 4 (by omega) _).mono ?_
    rintro _ h13 ⟨u, rfl, ou, lu, e13⟩
    rw [leB_length] at lu
    refine ⟨_, rfl, ?_⟩
    have kk13 := kk10.trans (e13.keep kk10.size)
    refine AppC_own (news := (leB 4 (crcN (covL pre))).map bv) rfl (o10.ext e13) kk13.size (by simp [leB_length, lu]) ou.rd (cellOk_bv _) (by omega) (by omega) fun r h14 o14 l14 k14 _ => ?_
    rw [← List.map_append] at o14
    exact ⟨e1.trans (kk13.trans k14).ext, .inr (.inr ⟨ok, by omega, r, rfl, by show Own h.size 1 h14 r ((encOf (preL k e s l bs)).map bv); rw [hpre]; exact o14.weak e1.size, by omega⟩)⟩

end Go.Proofs.Ytehhkjgcklhfcaa
