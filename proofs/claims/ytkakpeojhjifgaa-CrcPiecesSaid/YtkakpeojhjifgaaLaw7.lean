/-
  The laws of chapter 7: they answer true and leave what was there.
-/
import Derived.Test.YtkakpeojhjifgaaCrc
import Derived.Test.YtkakpeojhjifgaaAlike
import Derived.Test.YtkakpeojhjifgaaBridge
namespace Go.Proofs.Ytkakpeojhjifgaa
set_option linter.unusedVariables false
set_option linter.unusedSimpArgs false

theorem hstr_other {h : Hp} {a : Addr} {b : Nat} (hb : b ≠ a.block) : (hstr h a)[b]? = h[b]? := by
  unfold hstr
  split
  · simp [hmark, hw, World.freeze, Array.getElem?_modify, Ne.symm hb]
  · rfl
theorem hstr_size (h : Hp) (a : Addr) : (hstr h a).size = h.size := by
  unfold hstr
  split
  · simp [hmark, hw, World.freeze]
  · rfl
theorem hstr_cell (h : Hp) (a c : Addr) : hcell (hstr h a) c = hcell h c := by
  by_cases e : c.block = a.block
  · unfold hstr
    split
    · rename_i p n hs
      have hb : ∃ cs t f, h[a.block]? = some (.cells cs t f) := by
        unfold hshape World.shape? hw at hs
        simp only at hs
        split at hs
        · rename_i cs t f heq; exact ⟨cs, t, f, heq⟩
        · cases hs
      obtain ⟨cs, t, f, hb⟩ := hb
      simp [hcell, hmark, hw, World.freeze, World.cell?, e, Array.getElem?_modify, hb]
    · rfl
  · exact hcell_eq (hstr_other e)
theorem RdC.hstr {h : Hp} {b : Option Addr} {l : List Value} (hr : RdC h b l) (a : Addr) : RdC (hstr h a) b l := by
  intro i v hv
  obtain ⟨c, hc, hv⟩ := hr i v hv
  exact ⟨c, hc, by rw [hstr_cell]; exact hv⟩
theorem Keep.hstr {lo : Nat} {h h' : Hp} (k : Keep lo h h') {a : Addr} (ha : lo ≤ a.block) : Keep lo h (hstr h' a) :=
  ⟨by rw [hstr_size]; exact k.size, fun b hb => by rw [hstr_other (by omega)]; exact k.block b hb⟩

theorem crc_nine : crcN [49, 50, 51, 52, 53, 54, 55, 56, 57] = 3808858755 := by decide +kernel
theorem crc_none : crcN [] = 0 := by decide +kernel
theorem awake7_spec (h : Hp) : HCalls Try.prog fn_scarplaw7_awake #[] h (Yes h) := by
  apply scarplaw7_awake_vc
  unfold vcscarplaw7_awake
  have hr : RdC (hstr (alc h [.int .u8 (49 : Int), .int .u8 (50 : Int), .int .u8 (51 : Int), .int .u8 (52 : Int), .int .u8 (53 : Int), .int .u8 (54 : Int), .int .u8 (55 : Int), .int .u8 (56 : Int), .int .u8 (57 : Int)] _) (nw h)) (some (nw h)) (([49, 50, 51, 52, 53, 54, 55, 56, 57] : List UInt8).map bv) := (RdC.alc h _ 5).hstr _
  refine ⟨nw h, rfl, ?_⟩
  refine (Of_spec (s := ⟨some (nw h), 9, 9⟩) (l := [49, 50, 51, 52, 53, 54, 55, 56, 57]) rfl hr (by simp)).mono ?_
  rintro _ h1 ⟨rfl, e1⟩
  rw [crc_nine]
  refine ⟨_, rfl, .yes rfl ?_⟩
  refine (Check_spec (s := Sl.nil) (l := []) rfl (RdC.nil _ _) (by simp) 1).mono ?_
  rintro _ h2 ⟨rfl, e2⟩
  rw [crc_none]
  refine ⟨_, rfl, rfl, ?_⟩
  exact (Keep.ext ((((alc_ext h _ _).toKeep).hstr (a := nw h) (Nat.le_refl _)).trans (e1.keep (by rw [hstr_size, size_alc]; omega)))).trans e2

theorem CrcAsks_spec {h : Hp} {s : Sl} {l : List UInt8} (hb : InB h s l) (v : Int) : HCalls Try.prog fn_scarplaw7_CrcAsks #[.slice s.base s.len s.cap, .int .u32 v] h (Yes h) := by
  apply scarplaw7_CrcAsks_vc
  unfold vcscarplaw7_CrcAsks
  refine IfB.dec (fun hgt => ?_) (fun hle => ?_)
  · refine (awake7_spec h).mono ?_
    rintro _ h1 ⟨rfl, e⟩
    exact ⟨_, rfl, rfl, e⟩
  have hlen := hb.len
  have hmax : l.length < 9223372036854775807 := by omega
  refine (Of_spec hb.len hb.rd hmax).mono ?_
  rintro _ h1 ⟨rfl, e1⟩
  refine ⟨_, rfl, ?_⟩
  refine (refCrc_spec hb.len (hb.rd.ext e1) hmax).mono ?_
  rintro _ _ ⟨rfl, rfl⟩
  refine ⟨_, rfl, .yes (by simp) ?_⟩
  refine (Check_spec hb.len (hb.rd.ext e1) hmax v).mono ?_
  rintro _ h2 ⟨rfl, e2⟩
  refine ⟨_, rfl, ?_⟩
  refine (refCrc_spec hb.len (hb.rd.ext (e1.trans e2)) hmax).mono ?_
  rintro _ _ ⟨rfl, rfl⟩
  refine ⟨_, rfl, .yes (by simp) ?_⟩
  refine (refCrc_spec hb.len (hb.rd.ext (e1.trans e2)) hmax).mono ?_
  rintro _ _ ⟨rfl, rfl⟩
  refine ⟨_, rfl, ?_⟩
  refine (Check_spec hb.len (hb.rd.ext (e1.trans e2)) hmax _).mono ?_
  rintro _ h3 ⟨rfl, e3⟩
  refine ⟨_, rfl, .yes (by simp) ?_⟩
  refine (awake7_spec h3).mono ?_
  rintro _ h4 ⟨rfl, e4⟩
  exact ⟨_, rfl, rfl, ((e1.trans e2).trans e3).trans e4⟩
theorem CrcAsks_law {h : Hp} (s : Sl) (l : List Int) (w : InI .u8 h s l) (v : Int) (_ : (Lit.int .u32 v).wf = true) : HCalls Try.prog fn_scarplaw7_CrcAsks #[.slice s.base s.len s.cap, .int .u32 v] h (Yes h) := by
  obtain ⟨bs, hb⟩ := w.bytes
  exact CrcAsks_spec hb v

theorem xor_bv (x y : UInt8) : iXor .u8 (x.toNat : Int) (y.toNat : Int) = ((x ^^^ y).toNat : Int) := by
  rw [iXor_nat u8s (by simpa [IntKind.bits] using x.toBitVec.isLt) (by simpa [IntKind.bits] using y.toBitVec.isLt), UInt8.toNat_xor]
theorem xorL_take {a b : List UInt8} {k : Nat} (h1 : k < a.length) (h2 : k < b.length) : (xorL a b).take (k + 1) = (xorL a b).take k ++ [a[k] ^^^ b[k]] := by
  have hk : k < (xorL a b).length := by simp [xorL]; omega
  rw [List.take_succ_eq_append_getElem hk]
  simp [xorL]
theorem toNat_xor3 (a b c : BitVec 32) : iXor .u32 (iXor .u32 (a.toNat : Int) (b.toNat : Int)) (c.toNat : Int) = ((a ^^^ b ^^^ c).toNat : Int) := by
  rw [iXor_nat u32s (by simpa [IntKind.bits] using a.isLt) (by simpa [IntKind.bits] using b.isLt), ← BitVec.toNat_xor, iXor_nat u32s (by simpa [IntKind.bits] using (a ^^^ b).isLt) (by simpa [IntKind.bits] using c.isLt), ← BitVec.toNat_xor]

theorem CrcAdds_spec {h : Hp} {s t u : Sl} {a b c : List UInt8} (ha : InB h s a) (hb : InB h t b) (hc : InB h u c) :
    HCalls Try.prog fn_scarplaw7_CrcAdds #[.slice s.base s.len s.cap, .slice t.base t.len t.cap, .slice u.base u.len u.cap] h (Yes h) := by
  apply scarplaw7_CrcAdds_vc
  unfold vcscarplaw7_CrcAdds
  have aw : ∀ (h1 : Hp), Ext h h1 → HCalls Try.prog fn_scarplaw7_awake #[] h1 fun r vh => ∃ c1 : Bool, r = .bool c1 ∧ Yes h (.bool c1) vh := fun h1 e => (awake7_spec h1).mono (by
    rintro _ h2 ⟨rfl, e2⟩; exact ⟨_, rfl, rfl, e.trans e2⟩)
  have la := ha.len; have lb := hb.len; have lc := hc.len
  refine IfB.dec (fun hgt => aw h (.refl h)) (fun hle => ?_)
  refine IfB.ne (fun _ => aw h (.refl h)) (fun e1 => ?_)
  refine IfB.ne (fun _ => aw h (.refl h)) (fun e2 => ?_)
  have hb' : b.length = a.length := by omega
  have hc' : c.length = a.length := by omega
  have hmax : a.length ≤ 2000 := by omega
  have hx : (xorL (xorL a b) c).length = a.length := by simp [xorL, hb', hc']
  refine ⟨fun d i m h' => ∃ k : Nat, i = k ∧ m + k = a.length ∧ Own h.size 1 h' d (((xorL (xorL a b) c).take k).map bv) ∧ d.len = k ∧ Keep h.size h h', a.length, ⟨0, rfl, rfl, Own.nil _ _ _, rfl, .refl _ _⟩, ?_⟩
  rintro _ d _ m h' ⟨k, rfl, hm, ho, hd, hk⟩
  have hlk := ho.len
  refine IfB.dec (fun hlt => ?_) (fun hge => ?_)
  · have hk1 : k < a.length := by omega
    refine ixB (ha.rd.ext hk.ext) la k rfl hk1 ?_
    refine ixB (hb.rd.ext hk.ext) lb k rfl (by omega) ?_
    refine ixB (hc.rd.ext hk.ext) lc k rfl (by omega) ?_
    rw [xor_bv, xor_bv]
    refine ⟨alc_ext _ _ _, ?_⟩
    refine AppC_new (news := [bv (a[k] ^^^ b[k] ^^^ c[k])]) rfl ho hk.size rfl (cellOk_bv [_]) (by omega) (by omega) fun r h'' g1 g2 g3 _ => ?_
    refine ⟨m - 1, by omega, k + 1, ?_, by omega, ?_, by omega, hk.trans g3⟩
    · rw [iAdd64 (by omega)]; push_cast; rfl
    · rw [xorL_take (by simp [xorL]; omega) (by omega)]
      have : (xorL a b)[k]'(by simp [xorL]; omega) = a[k] ^^^ b[k] := by simp [xorL]
      rw [this, List.map_append]
      exact g1
  · have hk1 : k = a.length := by omega
    subst hk1
    rw [List.take_of_length_le (by omega)] at ho
    refine (Of_spec (l := xorL (xorL a b) c) (by omega) ho.rd (by omega)).mono ?_
    rintro _ h1 ⟨rfl, g1⟩
    refine ⟨_, rfl, ?_⟩
    refine (Of_spec la (ha.rd.ext (hk.ext.trans g1)) (by omega)).mono ?_
    rintro _ h2 ⟨rfl, g2⟩
    refine ⟨_, rfl, ?_⟩
    refine (Of_spec lb (hb.rd.ext ((hk.ext.trans g1).trans g2)) (by omega)).mono ?_
    rintro _ h3 ⟨rfl, g3⟩
    refine ⟨_, rfl, ?_⟩
    refine (Of_spec lc (hc.rd.ext (((hk.ext.trans g1).trans g2).trans g3)) (by omega)).mono ?_
    rintro _ h4 ⟨rfl, g4⟩
    refine ⟨_, rfl, .yes ?_ (aw _ ((((hk.ext.trans g1).trans g2).trans g3).trans g4))⟩
    unfold crcN
    rw [toNat_xor3, crc_xor3 a b c hb' hc']
    simp
theorem CrcAdds_law {h : Hp} (s : Sl) (l : List Int) (w : InI .u8 h s l) (s1 : Sl) (l1 : List Int) (w1 : InI .u8 h s1 l1) (s2 : Sl) (l2 : List Int) (w2 : InI .u8 h s2 l2) :
    HCalls Try.prog fn_scarplaw7_CrcAdds #[.slice s.base s.len s.cap, .slice s1.base s1.len s1.cap, .slice s2.base s2.len s2.cap] h (Yes h) := by
  obtain ⟨a, ha⟩ := w.bytes
  obtain ⟨b, hb⟩ := w1.bytes
  obtain ⟨c, hc⟩ := w2.bytes
  exact CrcAdds_spec ha hb hc

theorem leV_vals (v : BitVec 32) : [Value.int .u8 (iConv .u8 (v.toNat : Int)), .int .u8 (iConv .u8 (iShr .u32 (v.toNat : Int) (8 : Int))), .int .u8 (iConv .u8 (iShr .u32 (v.toNat : Int) (16 : Int))), .int .u8 (iConv .u8 (iShr .u32 (v.toNat : Int) (24 : Int)))] = (leV v).map bv := by
  have e : ∀ k : Nat, k ≤ 32 → Value.int .u8 (iConv .u8 (iShr .u32 (v.toNat : Int) (k : Int))) = bv ⟨(v >>> k).setWidth 8⟩ := by
    intro k hk
    rw [iShr_nat (k := .u32) (by simpa [IntKind.bits] using hk), bv_conv]
    congr 1
    apply UInt8.toNat_inj.1
    simp [Nat.shiftRight_eq_div_pow]
  have e0 : Value.int .u8 (iConv .u8 (v.toNat : Int)) = bv ⟨v.setWidth 8⟩ := by
    rw [bv_conv]
    congr 1
  rw [e0, show (8 : Int) = ((8 : Nat) : Int) by rfl, show (16 : Int) = ((16 : Nat) : Int) by rfl, show (24 : Int) = ((24 : Nat) : Int) by rfl, e 8 (by omega), e 16 (by omega), e 24 (by omega)]
  rfl
theorem CrcEnds_spec {h : Hp} {s : Sl} {l : List UInt8} (hb : InB h s l) : HCalls Try.prog fn_scarplaw7_CrcEnds #[.slice s.base s.len s.cap] h (Yes h) := by
  apply scarplaw7_CrcEnds_vc
  unfold vcscarplaw7_CrcEnds
  have aw : ∀ (h1 : Hp), Ext h h1 → HCalls Try.prog fn_scarplaw7_awake #[] h1 fun r vh => ∃ c1 : Bool, r = .bool c1 ∧ Yes h (.bool c1) vh := fun h1 e => (awake7_spec h1).mono (by
    rintro _ h2 ⟨rfl, e2⟩; exact ⟨_, rfl, rfl, e.trans e2⟩)
  have la := hb.len
  refine IfB.dec (fun hgt => aw h (.refl h)) (fun hle => ?_)
  refine (Of_spec la hb.rd (by omega)).mono ?_
  rintro _ h1 ⟨rfl, e1⟩
  refine ⟨_, rfl, ?_⟩
  have o0 : Own h1.size 1 (alc h1 [] _) ⟨some (nw h1), 0, 0⟩ [] := Own.alc h1 [] 5 0 1 rfl
  refine AppC_own (news := l.map bv) rfl o0 (by rw [size_alc]; omega) (by simpa using la) ((hb.rd.ext e1).ext (alc_ext _ _ _)) (cellOk_bv l) (by simp; omega) (by simp; omega) fun s1 h2 o1 l1 k1 _ => ?_
  refine ⟨by omega, by omega, by omega, ?_⟩
  have hs := k1.size
  rw [size_alc] at hs
  unfold crcN
  rw [leV_vals]
  refine AppC_new (l := l.map bv) (news := (leV (crcV l)).map bv) rfl (by simpa using o1) (by omega) rfl (cellOk_bv _) (by rw [l1]; simp; omega) (by rw [l1]; simp; omega) fun s2 h3 o2 l2 k2 _ => ?_
  have hs2 := k2.size
  have k3 : Keep h1.size h1 h3 := (((alc_ext h1 _ _).toKeep).trans k1).trans k2
  rw [← List.map_append] at o2
  refine (Of_spec (s := ⟨some (nw h3), 4, 4⟩) (l := [0, 0, 0, 0]) rfl (RdC.alc h3 _ _) (by simp)).mono ?_
  rintro _ h4 ⟨rfl, e4⟩
  refine ⟨_, rfl, ?_⟩
  have hll : (l ++ leV (crcV l)).length = s2.len := by rw [l2, l1]; simp [leV]; omega
  refine (Of_spec hll ((o2.ext (alc_ext _ _ _)).ext e4).rd (by rw [hll, l2, l1]; simp; omega)).mono ?_
  rintro _ h5 ⟨rfl, e5⟩
  refine ⟨_, rfl, .yes ?_ ?_⟩
  · unfold crcN; rw [crc_ends]; simp
  refine (Of_spec (s := Sl.nil) (l := []) rfl (RdC.nil _ _) (by simp)).mono ?_
  rintro _ h6 ⟨rfl, e6⟩
  rw [crc_none]
  refine ⟨_, rfl, .yes rfl (aw h6 ?_)⟩
  exact ((((e1.trans k3.ext).trans (alc_ext _ _ _)).trans e4).trans e5).trans e6
theorem CrcEnds_law {h : Hp} (s : Sl) (l : List Int) (w : InI .u8 h s l) : HCalls Try.prog fn_scarplaw7_CrcEnds #[.slice s.base s.len s.cap] h (Yes h) := by
  obtain ⟨a, ha⟩ := w.bytes
  exact CrcEnds_spec ha

end Go.Proofs.Ytkakpeojhjifgaa
