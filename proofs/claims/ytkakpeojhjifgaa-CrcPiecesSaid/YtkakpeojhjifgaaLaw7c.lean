/-
  CrcPieces (chapter 7).
-/
import Derived.Test.YtkakpeojhjifgaaLaw7
import Derived.Test.YtkakpeojhjifgaaAlike2
namespace Go.Proofs.Ytkakpeojhjifgaa
set_option linter.unusedVariables false
set_option linter.unusedSimpArgs false

/-- a block of one cell. -/
def Box (h : Hp) (b : Nat) (v : Value) : Prop := ∃ t, h[b]? = some (.cells #[v] t (0, 0))
theorem Box.alc (h : Hp) (v : Value) (t : Nat) : Box (alc h [v] t) h.size v := ⟨t, alc_new h [v] t⟩
theorem Box.cell {h : Hp} {b : Nat} {v : Value} (x : Box h b v) : hcell h ⟨b, 0, none⟩ = some v := by
  obtain ⟨t, hb⟩ := x; rw [hcell_blk hb]; rfl
theorem Box.froz {h : Hp} {b : Nat} {v : Value} (x : Box h b v) : hfroz h ⟨b, 0, none⟩ = false := by
  obtain ⟨t, hb⟩ := x; exact hfroz_blk hb _
theorem Box.lt {h : Hp} {b : Nat} {v : Value} (x : Box h b v) : b < h.size := by
  obtain ⟨t, hb⟩ := x
  rcases Nat.lt_or_ge b h.size with hl | hl
  · exact hl
  · rw [Array.getElem?_eq_none hl] at hb; cases hb
theorem Box.eq {h h' : Hp} {b : Nat} {v : Value} (x : Box h b v) (e : h'[b]? = h[b]?) : Box h' b v := by
  obtain ⟨t, hb⟩ := x; exact ⟨t, by rw [e, hb]⟩
theorem Box.ext {h h' : Hp} {b : Nat} {v : Value} (x : Box h b v) (e : Ext h h') : Box h' b v := x.eq (e.block _ x.lt)
theorem Box.set {h : Hp} {b : Nat} {v : Value} (x : Box h b v) (w : Value) : Box (hset h ⟨b, 0, none⟩ w) b w := by
  obtain ⟨t, hb⟩ := x; exact ⟨t, by rw [hset_blk hb]; rfl⟩
theorem Box.other {h : Hp} {b c : Nat} {v : Value} (x : Box h b v) (w : Value) (hbc : b ≠ c) : Box (hset h ⟨c, 0, none⟩ w) b v := x.eq (hset_other h _ w hbc)
theorem Own.other {lo sz : Nat} {h : Hp} {s : Sl} {l : List Value} (o : Own lo sz h s l) {b : Nat} (hb : b < lo) (w : Value) : Own lo sz (hset h ⟨b, 0, none⟩ w) s l :=
  o.eq fun a ha => hset_other h _ w (by have := o.lt ha; show a.block ≠ b; omega)

theorem AddTo_spec {h : Hp} {b : Nat} {p : List UInt8} {s : Sl} {l : List UInt8} (x : Box h b (.int .u32 (crcN p : Int))) (hb : InB h s l) (hmax : l.length < 9223372036854775807) :
    HCalls Try.prog fn_crc_Sum_Add #[.pointer (some ⟨b, 0, none⟩), .slice s.base s.len s.cap] h fun r h' => r = .pointer (some ⟨b, 0, none⟩) ∧ h' = hset h ⟨b, 0, none⟩ (.int .u32 (crcN (p ++ l) : Int)) := by
  refine (Add_spec (t := crcV p) x.cell x.froz hb.len hb.rd hmax).mono ?_
  rintro _ _ ⟨rfl, rfl⟩
  refine ⟨rfl, ?_⟩
  have : ~~~ creg (~~~ crcV p) l = crcV (p ++ l) := by unfold crcV; rw [creg_append]; simp
  rw [this]; rfl
theorem AddNil_spec (s : Sl) (h : Hp) : HCalls Try.prog fn_crc_Sum_Add #[.pointer none, .slice s.base s.len s.cap] h fun r h' => r = .pointer none ∧ h' = h := by
  apply crc_Sum_Add_vc
  unfold vccrc_Sum_Add
  exact IfB.yes rfl ⟨rfl, rfl⟩
theorem ValueNil_spec (h : Hp) : HCalls Try.prog fn_crc_Sum_Value #[.pointer none] h fun r h' => r = .int .u32 0 ∧ h' = h := by
  apply crc_Sum_Value_vc
  unfold vccrc_Sum_Value
  exact IfB.yes rfl ⟨rfl, rfl⟩
def catB (l : List (Sl × List UInt8)) : List UInt8 := (l.map (·.2)).flatten
theorem catB_snoc {l : List (Sl × List UInt8)} {j : Nat} (hj : j < l.length) : catB (l.take (j + 1)) = catB (l.take j) ++ l[j].2 := by
  unfold catB; rw [List.take_succ_eq_append_getElem hj, List.map_append, List.flatten_append]
  simp only [List.map_cons, List.map_nil, List.flatten_cons, List.flatten_nil, List.append_nil]
theorem catB_take_le (l : List (Sl × List UInt8)) (j : Nat) : (catB (l.take j)).length ≤ (catB l).length := by
  have : catB l = catB (l.take j) ++ catB (l.drop j) := by
    unfold catB
    rw [← List.flatten_append, ← List.map_append, List.take_append_drop]
  rw [this, List.length_append]; omega
theorem InBB.sum {h : Hp} {s : Sl} {l : List (Sl × List UInt8)} (b : InBB h s l) : ((l.map Prod.fst).map Sl.len).sum = (catB l).length := by
  unfold catB
  rw [List.length_flatten, List.map_map, List.map_map]
  congr 1
  refine List.map_congr_left fun p hp => ?_
  exact ((b.each p hp).len).symm
theorem InB.ext {h h' : Hp} {s : Sl} {l : List UInt8} (b : InB h s l) (e : Ext h h') : InB h' s l := ⟨b.len, b.cap, b.max, b.rd.ext e⟩
theorem aw7 {h h1 : Hp} (e : Ext h h1) : HCalls Try.prog fn_scarplaw7_awake #[] h1 fun r vh => ∃ c1 : Bool, r = .bool c1 ∧ Yes h (.bool c1) vh :=
  (awake7_spec h1).mono (by rintro _ h2 ⟨rfl, e2⟩; exact ⟨_, rfl, rfl, e.trans e2⟩)
theorem Ext.hset {h h' : Hp} (e : Ext h h') {b : Nat} (hb : h.size ≤ b) (v : Value) : Ext h (hset h' ⟨b, 0, none⟩ v) := (e.toKeep.hset v (a := ⟨b, 0, none⟩) hb).ext

theorem CrcPieces_spec {h : Hp} {l : Sl} {rows : List (Sl × List UInt8)} (hb : InBB h l rows) : HCalls Try.prog fn_scarplaw7_CrcPieces #[.slice l.base l.len l.cap] h (Yes h) := by
  apply scarplaw7_CrcPieces_vc
  unfold vcscarplaw7_CrcPieces
  have ll := hb.len
  refine IfB.dec (fun _ => aw7 (.refl h)) (fun hle => ?_)
  refine (Total_spec 2000 (by omega) (l := rows.map Prod.fst) (by simpa using ll) (by rw [List.map_map]; exact hb.rd) (Nat.le_trans hb.cap hb.max) (by
    intro x hx; obtain ⟨p, hp, rfl⟩ := List.mem_map.1 hx; exact Nat.le_trans (hb.each p hp).cap (hb.each p hp).max)).mono ?_
  rintro _ h1 ⟨⟨tot, rfl, htot⟩, e1⟩
  rw [hb.sum, List.length_map] at htot
  refine ⟨_, rfl, IfB.dec (fun _ => aw7 e1) (fun hle2 => ?_)⟩
  have htot' := htot (by omega)
  have hcl : (catB rows).length ≤ 2000 := by omega
  have hrl : ∀ j (hj : j < rows.length), (catB (rows.take j)).length + rows[j].2.length ≤ 2000 := fun j hj => by
    have h2 := catB_take_le rows (j + 1); rw [catB_snoc hj, List.length_append] at h2; omega
  refine (New_spec h1).mono ?_
  rintro _ _ ⟨t1, rfl, rfl⟩
  refine ⟨_, rfl, ?_⟩
  refine (New_spec _).mono ?_
  rintro _ _ ⟨t2, rfl, rfl⟩
  refine ⟨_, rfl, ?_⟩
  intro h5
  have b1 : Box (alc h1 [.int .u32 0] t1) h1.size (.int .u32 0) := Box.alc _ _ _
  have b2 : Box (alc (alc h1 [.int .u32 0] t1) [.int .u32 0] t2) (h1.size + 1) (.int .u32 0) := by have := Box.alc (alc h1 [.int .u32 0] t1) (.int .u32 0) t2; rwa [size_alc] at this
  have e2 : Ext (alc h1 [.int .u32 0] t1) (alc (alc h1 [.int .u32 0] t1) [.int .u32 0] t2) := alc_ext _ _ _
  have e5 : Ext (alc (alc h1 [.int .u32 0] t1) [.int .u32 0] t2) h5 := alc_ext _ _ _
  have e15 : Ext h1 h5 := ((alc_ext _ _ _).trans e2).trans e5
  have s5 : h5.size = h1.size + 3 := by simp [h5, size_alc]
  have nw1 : nw h1 = ⟨h1.size, 0, none⟩ := rfl
  have nw2 : nw (alc h1 [.int .u32 0] t1) = ⟨h1.size + 1, 0, none⟩ := by unfold nw; rw [size_alc]
  rw [nw2, nw1]
  have b2' := b2.ext e5
  have b1' := (b1.ext e2).ext e5
  have i5 : InB h5 (Sl.mk (some (nw (alc (alc h1 [.int .u32 0] t1) [.int .u32 0] t2))) 3 3) [1, 2, 3] := ⟨rfl, Nat.le_refl _, by simp [maxLen], RdC.alc _ _ _⟩
  have x0 : (0 : Int) = (crcN [] : Int) := by rw [crc_none]; rfl
  rw [x0] at b2' b1'
  refine (AddTo_spec b2' i5 (by simp)).mono ?_
  rintro _ _ ⟨rfl, rfl⟩
  refine ⟨_, rfl, ?_⟩
  have b2'' := b2'.set (.int .u32 (crcN ([] ++ [1, 2, 3]) : Int))
  have b1'' := b1'.other (.int .u32 (crcN ([] ++ [1, 2, 3]) : Int)) (show h1.size ≠ h1.size + 1 by omega)
  have e16 : Ext h1 (hset h5 ⟨h1.size + 1, 0, none⟩ (.int .u32 (crcN ([] ++ [1, 2, 3]) : Int))) := e15.hset (by omega) _
  have s6 : (hset h5 ⟨h1.size + 1, 0, none⟩ (.int .u32 (crcN ([] ++ [1, 2, 3]) : Int))).size = h1.size + 3 := by rw [size_hset, s5]
  generalize hset h5 ⟨h1.size + 1, 0, none⟩ (.int .u32 (crcN ([] ++ [1, 2, 3]) : Int)) = h6 at b2'' b1'' e16 s6 ⊢
  intro h7
  have e67 : Ext h6 h7 := alc_ext _ _ _
  have nw6 : nw h6 = ⟨h1.size + 3, 0, none⟩ := by unfold nw; rw [s6]
  rw [nw6]
  have b3 : Box h7 (h1.size + 3) (.int .u32 0) := by have := Box.alc h6 (.int .u32 0) 37; rwa [s6] at this
  rw [x0] at b3
  have s7 : h7.size = h1.size + 4 := by simp [h7, size_alc, s6]
  refine ⟨fun all i m h' => ∃ j : Nat, i = j ∧ j ≤ rows.length ∧ m = rows.length - j ∧ Ext h1 h' ∧ h7.size ≤ h'.size ∧ Box h' h1.size (.int .u32 (crcN (catB (rows.take j)) : Int)) ∧ Box h' (h1.size + 1) (.int .u32 (crcN ([] ++ [1, 2, 3]) : Int)) ∧
    Box h' (h1.size + 3) (.int .u32 (crcN (catB (rows.take j)) : Int)) ∧ Own h7.size 1 h' all ((catB (rows.take j)).map bv), rows.length, ⟨0, rfl, by omega, by omega, e16.trans e67, Nat.le_refl _, b1''.ext e67, b2''.ext e67, b3, by simpa [catB] using Own.nil h7.size 1 h7⟩, ?_⟩
  rintro _ all _ _ h8 ⟨j, rfl, hj, rfl, e8, s8, x1, x2, x3, ob⟩
  refine IfB.dec (fun hlt => ?_) (fun hge => ?_)
  · have hj' : j < rows.length := by omega
    have hI := hb.each rows[j] (List.getElem_mem hj')
    have hr := hrl j hj'
    have row : ∀ {h9 : Hp}, Ext h1 h9 → ∀ {K : Sl → Prop}, K rows[j].1 → ∃ a : Addr, l.base = some a ∧ 0 ≤ (j : Int) ∧ (j : Int) < (l.len : Int) ∧ ∃ c : Sl, hcell h9 (a.add ((j : Int).toNat * 1)) = some (.slice c.base c.len c.cap) ∧ K c := fun e9 K hK =>
      ix1 (hb.rd.ext (e1.trans e9)) (by simpa using ll) j rfl (by simpa using hj') fun a _ hc => ⟨_, by simpa [slV] using hc, hK⟩
    refine row e8 ?_
    refine (AddTo_spec x1 (hI.ext (e1.trans e8)) (by omega)).mono ?_
    rintro _ _ ⟨rfl, rfl⟩
    refine ⟨_, rfl, rfl, .no rfl ?_⟩
    rw [← catB_snoc hj']
    have y1 := x1.set (.int .u32 (crcN (catB (rows.take (j + 1))) : Int))
    have y2 := x2.other (.int .u32 (crcN (catB (rows.take (j + 1))) : Int)) (show h1.size + 1 ≠ h1.size by omega)
    have y3 := x3.other (.int .u32 (crcN (catB (rows.take (j + 1))) : Int)) (show h1.size + 3 ≠ h1.size by omega)
    have o9 := ob.other (b := h1.size) (by omega) (.int .u32 (crcN (catB (rows.take (j + 1))) : Int))
    have e9 := e8.hset (Nat.le_refl _) (.int .u32 (crcN (catB (rows.take (j + 1))) : Int))
    have s9 := size_hset h8 ⟨h1.size, 0, none⟩ (.int .u32 (crcN (catB (rows.take (j + 1))) : Int))
    generalize hset h8 ⟨h1.size, 0, none⟩ (.int .u32 (crcN (catB (rows.take (j + 1))) : Int)) = h9 at y1 y2 y3 o9 e9 s9 ⊢
    refine row e9 ?_
    refine (AddTo_spec y3 (hI.ext (e1.trans e9)) (by omega)).mono ?_
    rintro _ _ ⟨rfl, rfl⟩
    refine ⟨_, rfl, ?_⟩
    rw [← catB_snoc hj']
    have z3 := y3.set (.int .u32 (crcN (catB (rows.take (j + 1))) : Int))
    have z2 := y2.other (.int .u32 (crcN (catB (rows.take (j + 1))) : Int)) (show h1.size + 1 ≠ h1.size + 3 by omega)
    have z1 := y1.other (.int .u32 (crcN (catB (rows.take (j + 1))) : Int)) (show h1.size ≠ h1.size + 3 by omega)
    have o10 := o9.other (b := h1.size + 3) (by omega) (.int .u32 (crcN (catB (rows.take (j + 1))) : Int))
    have e10 := e9.hset (b := h1.size + 3) (by omega) (.int .u32 (crcN (catB (rows.take (j + 1))) : Int))
    have s10 := size_hset h9 ⟨h1.size + 3, 0, none⟩ (.int .u32 (crcN (catB (rows.take (j + 1))) : Int))
    generalize hset h9 ⟨h1.size + 3, 0, none⟩ (.int .u32 (crcN (catB (rows.take (j + 1))) : Int)) = h10 at z1 z2 z3 o10 e10 s10 ⊢
    refine row e10 ?_
    have hil := hI.len
    have hal := o10.len
    rw [List.length_map] at hal
    refine AppC_own (news := rows[j].2.map bv) rfl o10 (by omega) (by simpa using hil) (hI.rd.ext (e1.trans e10)) (cellOk_bv _) (by omega) (by omega) fun r h11 o11 l11 k11 _ => ?_
    rw [← List.map_append, ← catB_snoc hj'] at o11
    have w1 := z1.eq (k11.block h1.size (by omega))
    have w2 := z2.eq (k11.block (h1.size + 1) (by omega))
    have w3 := z3.eq (k11.block (h1.size + 3) (by omega))
    have e11 : Ext h1 h11 := (e10.toKeep.trans (k11.le (by omega))).ext
    refine (Value_spec w1.cell).mono ?_
    rintro _ _ ⟨rfl, rfl⟩
    refine ⟨_, rfl, ?_⟩
    refine (refCrc_spec o11.toRd.lenB o11.rd (by rw [o11.toRd.lenB]; omega)).mono ?_
    rintro _ h12 ⟨rfl, rfl⟩
    refine ⟨_, rfl, .no (by simp) ?_⟩
    refine ⟨rows.length - (j + 1), by omega, j + 1, ?_, by omega, rfl, e11, ?_, w1, w2, w3, o11⟩
    · rw [iAdd64 (by omega)]; push_cast; rfl
    · have := k11.size; omega
  · obtain rfl : j = rows.length := by omega
    rw [List.take_length] at x1 x3 ob
    refine (Value_spec x3.cell).mono ?_
    rintro _ _ ⟨rfl, rfl⟩
    refine ⟨_, rfl, ?_⟩
    refine (Value_spec x1.cell).mono ?_
    rintro _ _ ⟨rfl, rfl⟩
    refine ⟨_, rfl, .yes (by simp) ?_⟩
    refine (Value_spec x1.cell).mono ?_
    rintro _ _ ⟨rfl, rfl⟩
    refine ⟨_, rfl, ?_⟩
    refine (refCrc_spec ob.toRd.lenB ob.rd (by omega)).mono ?_
    rintro _ _ ⟨rfl, rfl⟩
    refine ⟨_, rfl, .yes (by simp) ?_⟩
    refine (Value_spec x2.cell).mono ?_
    rintro _ h18 ⟨rfl, rfl⟩
    refine ⟨_, rfl, ?_⟩
    intro h19
    refine (refCrc_spec (s := Sl.mk (some (nw h18)) 3 3) (l := [1, 2, 3]) rfl (RdC.alc h18 _ _) (by simp)).mono ?_
    rintro _ _ ⟨rfl, rfl⟩
    refine ⟨_, rfl, .yes (by simp) ?_⟩
    intro h21
    have e21 : Ext h h21 := ((e1.trans e8).trans (alc_ext _ _ _)).trans (alc_ext _ _ _)
    refine (AddNil_spec _ _).mono ?_
    rintro _ _ ⟨rfl, rfl⟩
    refine ⟨_, rfl, .yes rfl ?_⟩
    refine (ValueNil_spec _).mono ?_
    rintro _ _ ⟨rfl, rfl⟩
    exact ⟨_, rfl, .yes rfl (aw7 e21)⟩
theorem CrcPieces_law {h : Hp} (s : Sl) (l : List (Sl × List UInt8)) (w : InBB h s l) : HCalls Try.prog fn_scarplaw7_CrcPieces #[.slice s.base s.len s.cap] h (Yes h) := CrcPieces_spec w

end Go.Proofs.Ytkakpeojhjifgaa
