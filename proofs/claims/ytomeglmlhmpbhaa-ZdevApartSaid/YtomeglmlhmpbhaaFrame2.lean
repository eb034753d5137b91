/-
  scarpref6.Encode; made, same, Plain.
-/
import Derived.Test.YtomeglmlhmpbhaaFrame
import Derived.Test.YtomeglmlhmpbhaaRow
import Derived.Test.YtomeglmlhmpbhaaRef0
import Derived.Test.YtomeglmlhmpbhaaAlike
namespace Go.Proofs.Ytomeglmlhmpbhaa
set_option linter.unusedVariables false
set_option linter.unusedSimpArgs false

theorem alc_row (h : Hp) (c : List Value) (t : Nat) : Row (alc h c t) h.size c := Row.alc h c t
/-- a struct of a block, as its five cells. -/
def blkV (k e s l : Int) (t : Sl) : List Value := [.int .i64 k, .int .i64 e, .int .i64 s, .int .i64 l, .slice t.base t.len t.cap]
theorem blkV_ok (k e s l : Int) (t : Sl) : ∀ v ∈ blkV k e s l t, cellOk v = true := by
  intro v hv
  simp only [blkV, List.mem_cons, List.not_mem_nil, or_false] at hv
  rcases hv with rfl | rfl | rfl | rfl | rfl <;> rfl
/-- reading it whole. -/
theorem Row.get5 {h : Hp} {b : Nat} {k e s l : Int} {t : Sl} (x : Row h b (blkV k e s l t)) {K : Int → Int → Int → Int → Sl → Prop} (hK : K k e s l t) :
    ∃ c4 : Int, ∃ c5 : Int, ∃ c6 : Int, ∃ c7 : Int, ∃ c8 : Sl, hcell h ⟨b, 0, none⟩ = some (.int .i64 c4) ∧ hcell h ((⟨b, 0, none⟩ : Addr).add 1) = some (.int .i64 c5) ∧ hcell h ((⟨b, 0, none⟩ : Addr).add 2) = some (.int .i64 c6) ∧ hcell h ((⟨b, 0, none⟩ : Addr).add 3) = some (.int .i64 c7) ∧ hcell h ((⟨b, 0, none⟩ : Addr).add 4) = some (.slice c8.base c8.len c8.cap) ∧ K c4 c5 c6 c7 c8 :=
  ⟨k, e, s, l, t, x.get0 rfl, x.get rfl, x.get rfl, x.get rfl, x.get rfl, hK⟩
/-- giving it back. -/
theorem out5 {h : Hp} {b : Nat} {old : List Value} (x : Row h b old) (ho : old.length = 5) (k e s l : Int) (t : Sl) {K : Int → Int → Int → Int → Sl → Hp → Prop} (hK : ∀ h', Only b h h' → h'.size = h.size → Row h' b (blkV k e s l t) → K k e s l t h') :
    stCells ⟨b, 0, none⟩ 0 [.int .i64 k, .int .i64 e, .int .i64 s, .int .i64 l, .slice t.base t.len t.cap] h fun h' =>
    ∃ c4 : Int, ∃ c5 : Int, ∃ c6 : Int, ∃ c7 : Int, ∃ c8 : Sl, hcell h' ⟨b, 0, none⟩ = some (.int .i64 c4) ∧ hcell h' ((⟨b, 0, none⟩ : Addr).add 1) = some (.int .i64 c5) ∧ hcell h' ((⟨b, 0, none⟩ : Addr).add 2) = some (.int .i64 c6) ∧ hcell h' ((⟨b, 0, none⟩ : Addr).add 3) = some (.int .i64 c7) ∧ hcell h' ((⟨b, 0, none⟩ : Addr).add 4) = some (.slice c8.base c8.len c8.cap) ∧ K c4 c5 c6 c7 c8 h' :=
  x.put (vs := blkV k e s l t) (by simp [blkV, ho]) (blkV_ok k e s l t) fun h' r' s' o' => r'.get5 (K := fun a b c d e => K a b c d e h') (hK h' ⟨by omega, fun b hb hne => o' b hne⟩ s' r')

theorem made_spec (k e s l : Int) (t : Sl) (h : Hp) : HCalls Try.prog fn_scarplaw8_made #[.agg #[.int .i64 k, .int .i64 e, .int .i64 s, .int .i64 l, .slice t.base t.len t.cap]] h fun r h' =>
    r = .agg #[.int .i64 k, .int .i64 e, .int .i64 s, .int .i64 l, .slice t.base t.len t.cap] ∧ Ext h h' := by
  apply scarplaw8_made_vc
  unfold vcscarplaw8_made
  intro h1 h2
  have e1 : Ext h h1 := alc_ext _ _ _
  have e2 : Ext h1 h2 := alc_ext _ _ _
  have r1 : Row h2 h.size (blkV k e s l t) := (alc_row h _ _).ext e2
  have r2 : Row h2 h1.size _ := alc_row h1 _ _
  refine ⟨k, r1.get0 rfl, e, r1.get rfl, s, r1.get rfl, l, r1.get rfl, t, r1.get rfl, ?_⟩
  refine out5 r2 rfl k e s l t (K := fun a b c d f h' => Value.agg #[.int .i64 a, .int .i64 b, .int .i64 c, .int .i64 d, .slice f.base f.len f.cap] = .agg #[.int .i64 k, .int .i64 e, .int .i64 s, .int .i64 l, .slice t.base t.len t.cap] ∧ Ext h h') fun h' o' _ _ => ⟨rfl, ?_⟩
  exact o'.ext (e1.trans e2) e1.size
theorem same_spec {h : Hp} {k e s l k' e' s' l' : Int} {t t' : Sl} {a b : List UInt8} (ra : Rd 1 h t (a.map bv)) (rb : Rd 1 h t' (b.map bv)) (hmax : a.length < 9223372036854775807) :
    HCalls Try.prog fn_scarplaw8_same #[.agg #[.int .i64 k, .int .i64 e, .int .i64 s, .int .i64 l, .slice t.base t.len t.cap], .agg #[.int .i64 k', .int .i64 e', .int .i64 s', .int .i64 l', .slice t'.base t'.len t'.cap]] h fun r h' =>
      r = .bool (decide (k = k' ∧ e = e' ∧ s = s' ∧ l = l' ∧ a = b)) ∧ Ext h h' := by
  apply scarplaw8_same_vc
  unfold vcscarplaw8_same
  intro h1 h2
  have e1 : Ext h h1 := alc_ext _ _ _
  have e2 : Ext h1 h2 := alc_ext _ _ _
  have r1 : Row h2 h.size (blkV k e s l t) := (alc_row h _ _).ext e2
  have r2 : Row h2 h1.size (blkV k' e' s' l' t') := alc_row h1 _ _
  have ex := e1.trans e2
  refine ⟨k, r1.get0 rfl, k', r2.get0 rfl, IfB.eq (fun hk => ?_) (fun hk => ⟨by simp [hk], ex⟩)⟩
  refine ⟨e, r1.get rfl, e', r2.get rfl, IfB.eq (fun he => ?_) (fun he => ⟨by simp [he], ex⟩)⟩
  refine ⟨s, r1.get rfl, s', r2.get rfl, IfB.eq (fun hs => ?_) (fun hs => ⟨by simp [hs], ex⟩)⟩
  refine ⟨l, r1.get rfl, l', r2.get rfl, IfB.eq (fun hl => ?_) (fun hl => ⟨by simp [hl], ex⟩)⟩
  refine ⟨t, r1.get rfl, t', r2.get rfl, ?_⟩
  refine (Bytes_spec (ra.ext ex) (rb.ext ex) hmax).mono ?_
  rintro _ _ ⟨rfl, rfl⟩
  exact ⟨_, rfl, by simp [hk, he, hs, hl], ex⟩
theorem Plain_spec {h : Hp} {p : Sl} {l : List UInt8} (r : Rd 1 h p (l.map bv)) (hmax : l.length < 9223372036854775807) :
    HCalls Try.prog fn_frame_Plain #[.slice p.base p.len p.cap] h fun r h' => r = .bool (decide (l.length = 64) && !l.any fun c => (c.toNat : Int) != 0) ∧ h' = h := by
  apply frame_Plain_vc
  unfold vcframe_Plain
  have ll := r.lenB
  refine IfB.eq (fun h1 => ?_) (fun h1 => ⟨by rw [decide_eq_false (by omega)]; rfl, rfl⟩)
  refine (slContains_spec (f := fn_frame_Plain_1) (p := fun c => (c.toNat : Int) != 0) (fun c h => ?_) r hmax).mono ?_
  · apply frame_Plain_1_vc
    unfold vcframe_Plain_1
    exact ⟨rfl, rfl⟩
  · rintro _ _ ⟨rfl, rfl⟩
    exact ⟨_, rfl, by rw [decide_eq_true (by omega)]; rfl, rfl⟩

theorem refEncode_spec (k e s l : Int) {h : Hp} {b : Sl} {bs : List UInt8} (hb : Rd 1 h b (bs.map bv)) :
    HCalls Try.prog fn_scarpref6_Encode #[.agg #[.int .i64 k, .int .i64 e, .int .i64 s, .int .i64 l, .slice b.base b.len b.cap]] h (EncR h k e s l bs) := by
  apply scarpref6_Encode_vc
  unfold vcscarpref6_Encode
  intro h1
  have e1 : Ext h h1 := alc_ext _ _ _
  have lb := hb.lenB
  have r1 : Row h1 h.size (blkV k e s l b) := alc_row h _ _
  have no : ∀ {c : Prop}, (okB k e s l → False) → EncR h k e s l bs (.tuple #[.slice Sl.nil.base Sl.nil.len Sl.nil.cap, .int .i64 (1 : Int)]) h1 := fun hn => ⟨e1, .inl ⟨hn, rfl⟩⟩
  refine ⟨k, r1.get0 rfl, IfB.dec (fun hh => no (c := True) fun ok => by have := ok.1; omega) (fun hk1 => ?_)⟩
  refine ⟨k, r1.get0 rfl, IfB.dec (fun hh => no (c := True) fun ok => by have := ok.1; omega) (fun hk2 => ?_)⟩
  refine ⟨e, r1.get rfl, IfB.dec (fun hh => no (c := True) fun ok => by have := ok.2.1; omega) (fun he1 => ?_)⟩
  refine ⟨e, r1.get rfl, IfB.dec (fun hh => no (c := True) fun ok => by have := ok.2.1; omega) (fun he2 => ?_)⟩
  refine ⟨s, r1.get rfl, IfB.dec (fun hh => no (c := True) fun ok => by have := ok.2.2.1; omega) (fun hs1 => ?_)⟩
  refine ⟨s, r1.get rfl, IfB.dec (fun hh => no (c := True) fun ok => by have := ok.2.2.1; omega) (fun hs2 => ?_)⟩
  refine ⟨l, r1.get rfl, IfB.dec (fun hh => no (c := True) fun ok => by have := ok.2.2.2; omega) (fun hl1 => ?_)⟩
  refine ⟨l, r1.get rfl, IfB.dec (fun hh => no (c := True) fun ok => by have := ok.2.2.2; omega) (fun hl2 => ?_)⟩
  have ok : okB k e s l := ⟨by omega, by omega, by omega, by omega⟩
  refine ⟨b, r1.get rfl, IfB.dec (fun h40 => ⟨e1, .inr (.inl ⟨ok, by omega, rfl⟩)⟩) (fun h40 => ?_)⟩
  refine ⟨k, r1.get0 rfl, b, r1.get rfl, ?_⟩
  obtain ⟨k, rfl⟩ : ∃ n : Nat, k = n := ⟨k.toNat, by omega⟩
  obtain ⟨e, rfl⟩ : ∃ n : Nat, e = n := ⟨e.toNat, by omega⟩
  obtain ⟨s, rfl⟩ : ∃ n : Nat, s = n := ⟨s.toNat, by omega⟩
  obtain ⟨l, rfl⟩ : ∃ n : Nat, l = n := ⟨l.toNat, by omega⟩
  have cv : ∀ n : Nat, n < 2 ^ 64 → iConv .u64 (n : Int) = (n : Int) := fun n hn => by rw [iConv_nat u64s, Nat.mod_eq_of_lt (by simp only [IntKind.bits]; omega)]
  intro h2
  have e2 : Ext h1 h2 := alc_ext _ _ _
  have s1 : h.size < h1.size := by show h.size < (alc h _ _).size; rw [size_alc]; omega
  have o2 : Own h1.size 1 h2 (Sl.mk (some (nw h1)) 2 2) ([UInt8.ofNat k, UInt8.ofNat b.len].map bv) := by
    have := Own.alc h1 [.int .u8 (iConv .u8 (k : Int)), .int .u8 (iConv .u8 (b.len : Int))] ty_uint8 2 1 rfl
    have e0 : ([UInt8.ofNat k, UInt8.ofNat b.len].map bv) = [.int .u8 (iConv .u8 (k : Int)), .int .u8 (iConv .u8 (b.len : Int))] := by rw [bv_conv, bv_conv]; rfl
    rw [e0]; exact this
  have row : ∀ {h' : Hp}, Keep h1.size h1 h' → Row h' h.size (blkV k e s l b) := fun kk => r1.eq (kk.block _ s1)
  have kk2 := e2.toKeep
  refine ⟨e, (row kk2).get rfl, ?_⟩
  rw [cv e (by omega)]
  refine (refPut_spec e 4 (by omega) h2).mono ?_
  rintro _ h3 ⟨x, rfl, ox, lx, e3⟩
  rw [leB_length] at lx
  refine ⟨_, rfl, ?_⟩
  have kk3 := kk2.trans (e3.keep kk2.size)
  refine AppC_own (news := (leB 4 e).map bv) rfl (o2.ext e3) kk3.size (by simp [leB_length, lx]) ox.rd (cellOk_bv _) (by simp only; omega) (by simp only; omega) fun s4 h4 o4 l4 k4 _ => ?_
  have kk4 := kk3.trans k4
  rw [← List.map_append] at o4
  refine ⟨s, (row kk4).get rfl, ?_⟩
  rw [cv s (by omega)]
  refine (refPut_spec s 8 (by omega) h4).mono ?_
  rintro _ h5 ⟨y, rfl, oy, ly, e5⟩
  rw [leB_length] at ly
  refine ⟨_, rfl, ?_⟩
  have kk5 := kk4.trans (e5.keep kk4.size)
  simp only at l4
  refine AppC_own (news := (leB 8 s).map bv) rfl (o4.ext e5) kk5.size (by simp [leB_length, ly]) oy.rd (cellOk_bv _) (by omega) (by omega) fun s6 h6 o6 l6 k6 _ => ?_
  have kk6 := kk5.trans k6
  rw [← List.map_append] at o6
  refine ⟨l, (row kk6).get rfl, ?_⟩
  rw [cv l (by omega)]
  refine (refPut_spec l 4 (by omega) h6).mono ?_
  rintro _ h7 ⟨z, rfl, oz, lz, e7⟩
  rw [leB_length] at lz
  refine ⟨_, rfl, ?_⟩
  have kk7 := kk6.trans (e7.keep kk6.size)
  refine AppC_own (news := (leB 4 l).map bv) rfl (o6.ext e7) kk7.size (by simp [leB_length, lz]) oz.rd (cellOk_bv _) (by omega) (by omega) fun s8 h8 o8 l8 k8 _ => ?_
  have kk8 := kk7.trans k8
  rw [← List.map_append] at o8
  refine ⟨b, (row kk8).get rfl, ?_⟩
  refine AppC_own (news := bs.map bv) rfl o8 kk8.size (by simpa using lb) (hb.ext (e1.trans kk8.ext)).rd (cellOk_bv _) (by omega) (by omega) fun s9 h9 o9 l9 k9 _ => ?_
  have kk9 := kk8.trans k9
  rw [← List.map_append] at o9
  have epre : [UInt8.ofNat k, UInt8.ofNat b.len] ++ leB 4 e ++ leB 8 s ++ leB 4 l ++ bs = preL k e s l bs := by rw [← lb]; rfl
  rw [epre] at o9
  have hpl := preL_length k e s l bs
  generalize hpre : preL k e s l bs = pre at *
  refine ⟨fun p m h' => ∃ q : Nat, m + q = 60 ∧ pre.length ≤ q ∧ Keep h1.size h1 h' ∧ Own h1.size 1 h' p ((pre ++ List.replicate (q - pre.length) 0).map bv), 60 - pre.length, ⟨pre.length, by omega, Nat.le_refl _, kk9, by simpa using o9⟩, ?_⟩
  rintro _ p m h10 ⟨q, hm, hq, kk10, o10⟩
  have lp := o10.toRd.lenB
  rw [List.length_append, List.length_replicate] at lp
  refine IfB.dec (fun hlt => ?_) (fun hge => ?_)
  · intro h11
    refine AppC_new (lo := h1.size) (l := (pre ++ List.replicate (q - pre.length) 0).map bv) (news := [bv 0]) (n := 1) rfl o10 kk10.size rfl (by simp [bv, cellOk]) (by omega) (by omega) fun r h12 o12 l12 k12 _ => ?_
    refine ⟨m - 1, by omega, q + 1, by omega, by omega, kk10.trans k12, ?_⟩
    have : (pre ++ List.replicate (q - pre.length) 0).map bv ++ [bv 0] = (pre ++ List.replicate (q + 1 - pre.length) 0).map bv := by
      rw [show q + 1 - pre.length = (q - pre.length) + 1 by omega, List.replicate_succ']
      simp
    rw [← this]; exact o12
  · have hq60 : q = 60 := by omega
    subst hq60
    have hcov : pre ++ List.replicate (60 - pre.length) 0 = covL pre := rfl
    rw [hcov] at o10
    have hcl := covL_length (pre := pre) (by omega)
    refine (refCrc_spec o10.toRd.lenB o10.rd (by omega)).mono ?_
    rintro _ _ ⟨rfl, rfl⟩
    have hlt := crcN_lt (covL pre)
    refine ⟨_, rfl, ?_⟩
    rw [cv _ (by omega)]
    refine (refPut_spec (crcN (covL pre)) 4 (by omega) _).mono ?_
    rintro _ h13 ⟨u, rfl, ou, lu, e13⟩
    rw [leB_length] at lu
    refine ⟨_, rfl, ?_⟩
    have kk13 := kk10.trans (e13.keep kk10.size)
    refine AppC_own (news := (leB 4 (crcN (covL pre))).map bv) rfl (o10.ext e13) kk13.size (by simp [leB_length, lu]) ou.rd (cellOk_bv _) (by omega) (by omega) fun r h14 o14 l14 k14 _ => ?_
    rw [← List.map_append] at o14
    exact ⟨e1.trans (kk13.trans k14).ext, .inr (.inr ⟨ok, by omega, r, rfl, by show Own h.size 1 h14 r ((encOf (preL k e s l bs)).map bv); rw [hpre]; exact o14.weak e1.size, by omega⟩)⟩
/-- what came of reading is put by. -/
theorem put5 {h : Hp} {k e s l : Int} {t : Sl} {c0 c1 c2 c3 c4 : Value} {ty : Nat} {K : Hp → Prop} (hK : ∀ h', Ext h h' → Row h' h.size (blkV k e s l t) → K h') :
    stCells (nw h) 0 [.int .i64 k, .int .i64 e, .int .i64 s, .int .i64 l, .slice t.base t.len t.cap] (alc h [c0, c1, c2, c3, c4] ty) K :=
  (alc_row h [c0, c1, c2, c3, c4] ty).put (vs := blkV k e s l t) rfl (blkV_ok k e s l t) fun h' r' s' o' => hK h' ⟨by rw [s', size_alc]; omega, fun b hb => by rw [o' b (by omega), alc_old _ _ _ hb]⟩ r'
/-- a copy by 'append([]byte{}, p...)'. -/
theorem cpB {h : Hp} {u : Sl} {q : List UInt8} (ru : Rd 1 h u (q.map bv)) (hq : q.length ≤ 1000000) {K : Sl → Hp → Prop}
    (hK : ∀ s h', Own h.size 1 h' s (q.map bv) → s.len = q.length → Ext h h' → K s h') :
    AppC ty_uint8 1 1 #[.int .u8 (0 : Int)] (Sl.mk (some (nw h)) 0 0) u (alc h [] ty_uint8) K := by
  have e1 : Ext h (alc h [] ty_uint8) := alc_ext _ _ _
  have o0 : Own h.size 1 (alc h [] ty_uint8) ⟨some (nw h), 0, 0⟩ [] := Own.alc h [] ty_uint8 0 1 rfl
  have lu := ru.lenB
  refine AppC_own (news := q.map bv) rfl o0 e1.size (by simpa using ru.lenB) (ru.ext e1).rd (cellOk_bv q) (by simp; omega) (by simp; omega) fun s h6 o6 l6 k6 _ => ?_
  exact hK s h6 (by simpa using o6) (by rw [l6]; simp; omega) ((e1.toKeep).trans k6).ext

end Go.Proofs.Ytomeglmlhmpbhaa
