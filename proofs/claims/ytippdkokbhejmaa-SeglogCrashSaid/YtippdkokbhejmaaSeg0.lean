/-
  seglog: rows of slices; a check sum of records; bodies of blocks.
-/
import Derived.Test.YtippdkokbhejmaaLog0
import Derived.Test.YtippdkokbhejmaaRowsC
import Derived.Test.YtippdkokbhejmaaFrameV
namespace Go.Proofs.Ytippdkokbhejmaa
set_option linter.unusedVariables false
set_option linter.unusedSimpArgs false

/-! ### A heap of which only some blocks are looked at -/
def filt (P : Nat → Bool) (h : Hp) : Hp := h.mapIdx fun i o => if P i then o else .cells #[] 0 (0, 0)
theorem filt_at {P : Nat → Bool} {h : Hp} {b : Nat} (hb : P b = true) : (filt P h)[b]? = h[b]? := by
  unfold filt
  rw [Array.getElem?_mapIdx]
  simp [hb]
theorem sub_filt {P : Nat → Bool} {h h' : Hp} (e : ∀ b, b < h.size → P b = true → h'[b]? = h[b]?) : Sub (filt P h) h' := by
  intro a v hc
  have hlt : a.block < h.size := by
    have := hcell_lt hc
    simpa [filt] using this
  by_cases hp : P a.block = true
  · rw [← hc]
    exact hcell_eq (by rw [e _ hlt hp, filt_at hp])
  · exfalso
    have : (filt P h)[a.block]? = some (.cells #[] 0 (0, 0)) := by
      unfold filt
      rw [Array.getElem?_mapIdx, Array.getElem?_eq_getElem hlt]
      simp [hp]
    simp [hcell, hw, World.cell?, this] at hc

/-! ### Rows of slices -/
structure RowsR (h : Hp) (s : Sl) (rows : List (Sl × List UInt8)) : Prop where
  rd : Rd 1 h s (rows.map fun p => slV p.1)
  each : ∀ p ∈ rows, Rd 1 h p.1 (p.2.map bv)
/-- all blocks of the rows are such. -/
structure RowsIn (P : Nat → Prop) (s : Sl) (rows : List (Sl × List UInt8)) : Prop where
  out : ∀ a, s.base = some a → P a.block
  each : ∀ p ∈ rows, ∀ a, p.1.base = some a → P a.block
theorem RowsR.len {h : Hp} {s : Sl} {rows : List (Sl × List UInt8)} (r : RowsR h s rows) : s.len = rows.length := by have := r.rd.len; simpa using this.symm
theorem RowsR.ext {h h' : Hp} {s : Sl} {rows : List (Sl × List UInt8)} (r : RowsR h s rows) (e : Ext h h') : RowsR h' s rows := ⟨r.rd.ext e, fun p hp => (r.each p hp).ext e⟩
theorem RowsR.eq {P : Nat → Prop} {h h' : Hp} {s : Sl} {rows : List (Sl × List UInt8)} (r : RowsR h s rows) (i : RowsIn P s rows) (e : ∀ b, P b → h'[b]? = h[b]?) : RowsR h' s rows :=
  ⟨r.rd.eq fun a ha => e _ (i.out a ha), fun p hp => (r.each p hp).eq fun a ha => e _ (i.each p hp a ha)⟩
theorem RowsIn.mono {P Q : Nat → Prop} {s : Sl} {rows : List (Sl × List UInt8)} (i : RowsIn P s rows) (h : ∀ b, P b → Q b) : RowsIn Q s rows := ⟨fun a ha => h _ (i.out a ha), fun p hp a ha => h _ (i.each p hp a ha)⟩
theorem RowsR.nil (h : Hp) : RowsR h Sl.nil [] := ⟨Rd.nil _ _, fun p hp => by simp at hp⟩
theorem RowsIn.nil (P : Nat → Prop) : RowsIn P Sl.nil [] := ⟨fun a ha => (by cases ha), fun p hp => by simp at hp⟩
theorem OwnRows.rowsR {lo : Nat} {h : Hp} {s : Sl} {rows : List (Sl × List UInt8)} (o : OwnRows lo h s rows) : RowsR h s rows := ⟨o.own.toRd, o.each⟩
theorem OwnRows.rowsIn {lo : Nat} {h : Hp} {s : Sl} {rows : List (Sl × List UInt8)} (o : OwnRows lo h s rows) : RowsIn (fun b => lo ≤ b ∧ b < h.size) s rows := ⟨fun a ha => o.own.lt ha, fun p hp a ha => ⟨(o.base p hp a ha).1, (o.base p hp a ha).2.1⟩⟩
/-- a cut of rows. -/
theorem RowsR.drop {h : Hp} {s : Sl} {rows : List (Sl × List UInt8)} (r : RowsR h s rows) {k : Nat} (hk : k ≤ rows.length) : RowsR h (cutSl s (k : Int) (s.len : Int) (s.cap : Int) 1) (rows.drop k) := by
  have hl := r.len
  have hc := r.rd.cap
  refine ⟨?_, fun p hp => r.each p (List.mem_of_mem_drop hp)⟩
  have := r.rd.cut (lo := k) (hi := s.len) (m := s.cap) (by omega) (Nat.le_refl _) hc
  rw [Nat.mul_one, Nat.mul_one, List.take_of_length_le (by simp; omega)] at this
  rw [List.map_drop]
  exact this
theorem cut_base {s : Sl} {lo hi m : Int} {sz : Nat} {a : Addr} (ha : (cutSl s lo hi m sz).base = some a) : ∃ a', s.base = some a' ∧ a.block = a'.block := by
  simp only [cutSl] at ha
  split at ha
  · exact ⟨a, ha, rfl⟩
  · obtain ⟨a', ha', rfl⟩ := Option.map_eq_some_iff.1 ha
    exact ⟨a', ha', add_block _ _⟩
theorem RowsIn.drop {P : Nat → Prop} {s : Sl} {rows : List (Sl × List UInt8)} (i : RowsIn P s rows) (k : Nat) (lo hi m : Int) : RowsIn P (cutSl s lo hi m 1) (rows.drop k) :=
  ⟨fun a ha => by
    obtain ⟨a', ha', e⟩ := cut_base ha
    rw [e]; exact i.out a' ha', fun p hp => i.each p (List.mem_of_mem_drop hp)⟩

/-- a copy of a row of slices. -/
theorem rowsClone_spec {h : Hp} {s : Sl} {vs : List Value} (r : Rd 1 h s vs) (hok : ∀ v ∈ vs, cellOk v = true) (hmax : vs.length ≤ 1000000) :
    HCalls Try.prog fn_slices_Clone_ssbytesbyte #[.slice s.base s.len s.cap] h fun r h' => ∃ t : Sl, r = .slice t.base t.len t.cap ∧ Own h.size 1 h' t vs ∧ t.len = vs.length ∧ Ext h h' := by
  apply slices_Clone_ssbytesbyte_vc
  unfold vcslices_Clone_ssbytesbyte
  have ll := r.len
  refine IfB.nilp (fun hn => ?_) (fun a ha => ?_)
  · have : vs = [] := by
      rcases vs with _ | ⟨x, l⟩
      · rfl
      · obtain ⟨a, ha, _⟩ := r.rd 0 x rfl; rw [hn] at ha; cases ha
    subst this
    exact ⟨Sl.nil, rfl, Own.nil _ _ _, rfl, .refl h⟩
  · have o0 : Own h.size 1 (alc h [] ty_suint8) ⟨some (nw h), 0, 0⟩ [] := Own.alc h [] ty_suint8 0 1 rfl
    refine AppC_own (news := vs) rfl o0 (by rw [size_alc]; omega) ll (r.ext (alc_ext _ _ _)).rd hok (by simp; omega) (by simp; omega) fun t h1 o1 l1 k1 _ => ?_
    exact ⟨t, rfl, by simpa using o1, by rw [l1]; simp; omega, (((alc_ext h [] ty_suint8).toKeep).trans k1).ext⟩
theorem slV_all (rows : List (Sl × List UInt8)) : ∀ v ∈ rows.map (fun p => slV p.1), cellOk v = true := by
  intro v hv
  obtain ⟨x, _, rfl⟩ := List.mem_map.1 hv
  rfl
/-- room for rows, in a slice that is nil. -/
theorem rowsGrow_spec (n : Nat) (hn : n ≤ 1000000) (h : Hp) :
    HCalls Try.prog fn_slices_Grow_ssbytesbyte #[.slice Sl.nil.base Sl.nil.len Sl.nil.cap, .int .i64 (n : Int)] h fun r h' => ∃ t : Sl, r = .slice t.base t.len t.cap ∧ Own h.size 1 h' t [] ∧ t.len = 0 ∧ Ext h h' := by
  apply slices_Grow_ssbytesbyte_vc
  unfold vcslices_Grow_ssbytesbyte
  have e0 : iSub .i64 (n : Int) (iSub .i64 ((Sl.nil.cap : Nat) : Int) ((Sl.nil.len : Nat) : Int)) = (n : Int) := by
    show iSub .i64 (n : Int) (iSub .i64 ((0 : Nat) : Int) ((0 : Nat) : Int)) = _
    rw [iSub64 (a := ((0 : Nat) : Int)) (by omega), iSub64 (by omega)]; omega
  rw [e0]
  refine IfB.dec (fun hh => by omega) (fun _ => IfB.dec (fun hpos => ⟨by omega, by simp [Sl.nil], by omega, by omega, ?_⟩) (fun _ => ⟨Sl.nil, rfl, Own.nil _ _ _, rfl, .refl h⟩))
  have ec : cutSl Sl.nil (0 : Int) ((Sl.nil.cap : Nat) : Int) ((Sl.nil.cap : Nat) : Int) 1 = Sl.nil := rfl
  rw [ec]
  refine AppZ_own (m := n) rfl (Own.nil h.size 1 h) (Nat.le_refl _) rfl (by simp [Sl.nil]; omega) (by simp [Sl.nil]; omega) fun t h1 o1 l1 k1 _ => ?_
  refine ⟨by omega, by simp [Sl.nil], by simp [Sl.nil], by omega, ?_⟩
  have hcap := o1.le
  have hl := o1.len
  refine ⟨_, rfl, ⟨by simp [cutSl, Sl.nil], by simp [cutSl, Sl.nil], ?_⟩, by simp [cutSl, Sl.nil], k1.ext⟩
  rcases o1.row with ⟨g1, g2⟩ | ⟨b, c, e, g1, g2, g3, g4, g5⟩
  · exact .inl ⟨by simp [cutSl, g1], by simp [cutSl, g2]⟩
  · refine .inr ⟨b, c, e, ?_, g2, g3, by simpa [cutSl] using g4, by simp [cutSl, Sl.nil]⟩
    simp only [cutSl, g1]
    split
    · rfl
    · simp [add_none]
def catV (l : List (Sl × List Value)) : List Value := (l.map (·.2)).flatten
theorem catV_snoc {l : List (Sl × List Value)} {j : Nat} (hj : j < l.length) : catV (l.take (j + 1)) = catV (l.take j) ++ l[j].2 := by
  unfold catV; rw [List.take_succ_eq_append_getElem hj, List.map_append, List.flatten_append]
  simp only [List.map_cons, List.map_nil, List.flatten_cons, List.flatten_nil, List.append_nil]
theorem catV_take_le (l : List (Sl × List Value)) (j : Nat) : (catV (l.take j)).length ≤ (catV l).length := by
  have : catV l = catV (l.take j) ++ catV (l.drop j) := by
    unfold catV
    rw [← List.flatten_append, ← List.map_append, List.take_append_drop]
  rw [this, List.length_append]; omega
/-- rows, one behind the other. -/
theorem rowsConcat_spec {h : Hp} {s : Sl} {rows : List (Sl × List Value)} (hl : rows.length = s.len) (hr : RdC h s.base (rows.map fun p => slV p.1)) (each : ∀ p ∈ rows, Rd 1 h p.1 p.2) (hok : ∀ p ∈ rows, ∀ v ∈ p.2, cellOk v = true) (hs : s.len ≤ 1000000) (hmax : (catV rows).length ≤ 1000000) :
    HCalls Try.prog fn_slices_Concat_ssbytesbyte #[.slice s.base s.len s.cap] h fun r h' => ∃ t : Sl, r = .slice t.base t.len t.cap ∧ Own h.size 1 h' t (catV rows) ∧ t.len = (catV rows).length ∧ Ext h h' := by
  apply slices_Concat_ssbytesbyte_vc
  unfold vcslices_Concat_ssbytesbyte
  have row : ∀ {h9 : Hp}, Ext h h9 → ∀ (j : Nat) (hj : j < rows.length) {K : Sl → Prop}, K rows[j].1 → ∃ a : Addr, s.base = some a ∧ 0 ≤ (j : Int) ∧ (j : Int) < (s.len : Int) ∧ ∃ c : Sl, hcell h9 (a.add ((j : Int).toNat * 1)) = some (.slice c.base c.len c.cap) ∧ K c := fun e9 j hj K hK =>
    ix1 (hr.ext e9) (by simpa using hl) j rfl (by simpa using hj) fun a _ hc => ⟨_, by simpa [slV] using hc, hK⟩
  have ln : ∀ (j : Nat) (hj : j < rows.length), rows[j].1.len = rows[j].2.length ∧ (catV (rows.take j)).length + rows[j].2.length ≤ (catV rows).length := fun j hj => by
    have h1 := (each rows[j] (List.getElem_mem hj)).len
    have h2 := catV_take_le rows (j + 1)
    rw [catV_snoc hj, List.length_append] at h2
    exact ⟨by omega, h2⟩
  refine ⟨fun n i m h' => h = h' ∧ ∃ j : Nat, i = j ∧ m + j = rows.length ∧ n = ((catV (rows.take j)).length : Int), rows.length, ⟨rfl, 0, rfl, rfl, rfl⟩, ?_⟩
  rintro _ _ _ m _ ⟨rfl, j, rfl, hm, rfl⟩
  refine IfB.dec (fun hlt => ?_) (fun hge => ?_)
  · have hj : j < rows.length := by omega
    obtain ⟨l1, l2⟩ := ln j hj
    refine row (.refl h) j hj ?_
    rw [iAdd64 (by omega)]
    refine IfB.dec (fun hh => by omega) (fun _ => ⟨m - 1, by omega, rfl, j + 1, by rw [iAdd64 (by omega)]; push_cast; rfl, by omega, ?_⟩)
    rw [catV_snoc hj, List.length_append, l1]; push_cast; rfl
  · obtain rfl : j = rows.length := by omega
    rw [List.take_length]
    refine (rowsGrow_spec _ hmax h).mono ?_
    rintro _ h1 ⟨t, rfl, o1, t0, e1⟩
    refine ⟨_, rfl, ?_⟩
    refine ⟨fun t i m h' => ∃ j : Nat, i = j ∧ m + j = rows.length ∧ Ext h h' ∧ Own h.size 1 h' t (catV (rows.take j)), rows.length, ⟨0, rfl, rfl, e1, by simpa [catV] using o1⟩, ?_⟩
    rintro _ t2 _ m2 h2 ⟨q, rfl, hq, e2, o2⟩
    refine IfB.dec (fun hlt2 => ?_) (fun hge2 => ?_)
    · have hq' : q < rows.length := by omega
      obtain ⟨l1, l2⟩ := ln q hq'
      have hbl := o2.len
      refine row e2 q hq' ?_
      have hR := (each rows[q] (List.getElem_mem hq')).ext e2
      refine AppC_own (news := rows[q].2) rfl o2 e2.size (by simpa using l1.symm) hR.rd (hok _ (List.getElem_mem hq')) (by omega) (by omega) fun r h3 o3 l3 k3 _ => ?_
      rw [← catV_snoc hq'] at o3
      exact ⟨m2 - 1, by omega, q + 1, by rw [iAdd64 (by omega)]; push_cast; rfl, by omega, (e2.toKeep.trans k3).ext, o3⟩
    · obtain rfl : q = rows.length := by omega
      rw [List.take_length] at o2
      exact ⟨t2, rfl, o2, by have := o2.len; omega, e2⟩

/-! ### A check sum of records -/
theorem seglogSum_spec {h : Hp} {s : Sl} {rows : List (Sl × List UInt8)} (r : RowsR h s rows) (h40 : ∀ p ∈ rows, p.2.length ≤ 1000) (hmax : rows.length ≤ 1000000) :
    HCalls Try.prog fn_seglog_sum #[.slice s.base s.len s.cap] h (NewB h (sumL (rows.map (·.2)))) := by
  apply seglog_sum_vc
  unfold vcseglog_sum
  have hl := r.len
  refine (crcNew_spec h).mono ?_
  rintro _ _ ⟨t, rfl, rfl⟩
  refine ⟨_, rfl, ?_⟩
  let A : Nat → List UInt8 := fun k => ((rows.take k).map (·.2)).flatMap fun r => UInt8.ofNat r.length :: r
  refine ⟨fun i m h' => ∃ k : Nat, i = k ∧ m + k = rows.length ∧ Ext h h' ∧ Row h' h.size [.int .u32 ((crcV (A k)).toNat : Int)], rows.length, ⟨0, rfl, rfl, alc_ext _ _ _, ?_⟩, ?_⟩
  · have : (crcV (A 0)).toNat = 0 := by show (crcV []).toNat = 0; decide
    rw [this]; exact Row.alc _ _ _
  rintro _ _ m h1 ⟨k, rfl, hm, e1, r1⟩
  refine IfB.dec (fun hlt => ?_) (fun hge => ?_)
  · have hk : k < rows.length := by omega
    have hmem : rows[k] ∈ rows := List.getElem_mem hk
    have h40' := h40 _ hmem
    have hs1 := r1.lt
    refine ixS (r.rd.ext e1).rd hl k rfl hk ?_
    have rk := (r.each _ hmem).ext e1
    have lk := rk.lenB
    intro h2
    have e2 : Ext h1 h2 := alc_ext _ _ _
    have rb : RdC h2 (some (nw h1)) ([UInt8.ofNat rows[k].2.length].map bv) := by
      have h0 : RdC h2 (some (nw h1)) [Value.int .u8 (iConv .u8 (rows[k].1.len : Int))] := RdC.alc h1 _ _
      rw [← lk, bv_conv] at h0
      exact h0
    obtain ⟨e0, r2⟩ := r1.ext e2
    refine (crcAdd_spec (a := nw h) (t := crcV (A k)) (s := Sl.mk (some (nw h1)) 1 1) (l := [UInt8.ofNat rows[k].2.length]) (by unfold nw; rw [hcell_blk r2]; rfl) (by unfold nw; exact hfroz_blk r2 _) rfl rb (by simp)).mono ?_
    rintro _ h3 ⟨rfl, h3e⟩
    refine ⟨_, rfl, ?_⟩
    obtain ⟨ok3, row3, x3, s3⟩ := (show Row h2 h.size _ from ⟨e0, r2⟩).set0 (by simp) (.int .u32 ((~~~ creg (~~~ crcV (A k)) [UInt8.ofNat rows[k].2.length]).toNat : Int))
    have h3e' : h3 = hset h2 ⟨h.size, 0, none⟩ (.int .u32 ((~~~ creg (~~~ crcV (A k)) [UInt8.ofNat rows[k].2.length]).toNat : Int)) := h3e
    rw [← h3e'] at row3 x3 s3
    have hrb : ∀ a, rows[k].1.base = some a → rows[k].2 ≠ [] → a.block < h.size := fun a ha hne => (r.each _ hmem).rd.lt (by simpa using hne) ha
    have rk3 : RdC h3 rows[k].1.base (rows[k].2.map bv) := by
      by_cases hne : rows[k].2 = []
      · rw [hne]; exact RdC.nil _ _
      · exact ((r.each _ hmem).rd.eq (h' := h3) fun a ha => by
          have := hrb a ha hne
          rw [x3 _ (by omega), e2.block _ (by have := e1.size; omega), e1.block _ this])
    obtain ⟨e3, r3⟩ := row3
    refine (crcAdd_spec (a := nw h) (t := ~~~ creg (~~~ crcV (A k)) [UInt8.ofNat rows[k].2.length]) (l := rows[k].2) (by unfold nw; rw [hcell_blk r3]; rfl) (by unfold nw; exact hfroz_blk r3 _) lk rk3 (by omega)).mono ?_
    rintro _ h4 ⟨rfl, h4e⟩
    refine ⟨_, rfl, ?_⟩
    obtain ⟨ok4, row4, x4, s4⟩ := (show Row h3 h.size _ from ⟨e3, r3⟩).set0 (by simp) (.int .u32 ((~~~ creg (~~~ (~~~ creg (~~~ crcV (A k)) [UInt8.ofNat rows[k].2.length])) rows[k].2).toNat : Int))
    have h4e' : h4 = hset h3 ⟨h.size, 0, none⟩ (.int .u32 ((~~~ creg (~~~ (~~~ creg (~~~ crcV (A k)) [UInt8.ofNat rows[k].2.length])) rows[k].2).toNat : Int)) := h4e
    rw [← h4e'] at row4 x4 s4
    refine ⟨m - 1, by omega, k + 1, by rw [iAdd64 (by omega)]; push_cast; rfl, by omega, ⟨by have := e1.size; have := e2.size; omega, fun b hb => by rw [x4 b (by omega), x3 b (by omega), e2.block b (by have := e1.size; omega), e1.block b hb]⟩, ?_⟩
    have hA : crcV (A (k + 1)) = ~~~ creg (~~~ (~~~ creg (~~~ crcV (A k)) [UInt8.ofNat rows[k].2.length])) rows[k].2 := by
      unfold crcV
      rw [BitVec.not_not, BitVec.not_not, ← creg_append, ← creg_append]
      congr 2
      show ((rows.take (k + 1)).map (·.2)).flatMap _ = _
      rw [List.take_succ_eq_append_getElem hk, List.map_append, List.flatMap_append]
      simp [A]
    rw [hA]
    simpa using row4
  · obtain rfl : k = rows.length := by omega
    refine (crcValue_spec (a := nw h) (r1.get0 rfl)).mono ?_
    rintro _ _ ⟨rfl, rfl⟩
    refine ⟨_, rfl, ?_⟩
    refine (Put32_spec _ (crcV (A rows.length)).isLt _).mono ?_
    rintro _ h3 ⟨u, rfl, ou, lu, e3⟩
    have hA : sumL (rows.map (·.2)) = leB 4 (crcV (A rows.length)).toNat := by
      show leB 4 (crcN _) = _
      simp only [A, List.take_length]; rfl
    rw [← hA] at ou lu
    exact ⟨u, rfl, u, rfl, ou.weak e1.size, lu, e1.trans e3⟩

/-! ### Blocks that wait -/
/-- a block that was read, and where its body stands. -/
abbrev WB := List UInt8 × Sl
def wc (x : WB) : List Value := blkV (dK x.1) (dE x.1) (dS x.1) (dL x.1) x.2
def wcs (D : List WB) : List Value := D.flatMap wc
theorem wc_len (x : WB) : (wc x).length = 5 := rfl
theorem wcs_cons (x : WB) (D : List WB) : wcs (x :: D) = wc x ++ wcs D := rfl
theorem wcs_length : ∀ D, (wcs D).length = D.length * 5
  | [] => rfl
  | x :: D => by rw [wcs_cons, List.length_append, wcs_length D, wc_len, List.length_cons]; omega
theorem wcs_append (a b : List WB) : wcs (a ++ b) = wcs a ++ wcs b := by simp [wcs]
theorem wcs_drop : ∀ (D : List WB) (k : Nat), (wcs D).drop (k * 5) = wcs (D.drop k)
  | [], k => by simp [wcs]
  | x :: D, 0 => by simp
  | x :: D, k + 1 => by
    rw [wcs_cons, List.drop_append, List.drop_eq_nil_of_le (by rw [wc_len]; omega), List.nil_append, wc_len, show (k + 1) * 5 - 5 = k * 5 by omega, wcs_drop D k]; rfl
theorem wcs_get : ∀ (D : List WB) (i j : Nat), j < 5 → (wcs D)[i * 5 + j]? = (D[i]?).bind fun x => (wc x)[j]?
  | [], i, j, _ => by simp [wcs]
  | x :: D, 0, j, h => by rw [wcs_cons, List.getElem?_append_left (by rw [wc_len]; omega)]; simp
  | x :: D, i + 1, j, h => by
    rw [wcs_cons, List.getElem?_append_right (by rw [wc_len]; omega), wc_len, show (i + 1) * 5 + j - 5 = i * 5 + j by omega, wcs_get D i j h]; simp
theorem ixw {h : Hp} {s : Sl} {D : List WB} (r : Rd 5 h s (wcs D)) {i : Int} (k : Nat) (hi : i = k) (hk : k < D.length) {K : Int → Int → Int → Int → Sl → Prop}
    (hK : K (dK D[k].1) (dE D[k].1) (dS D[k].1) (dL D[k].1) D[k].2) : ∃ a : Addr, s.base = some a ∧ 0 ≤ i ∧ i < (s.len : Int) ∧
      ∃ c8 : Int, ∃ c9 : Int, ∃ c10 : Int, ∃ c11 : Int, ∃ c12 : Sl, hcell h (a.add (i.toNat * 5)) = some (.int .i64 c8) ∧ hcell h ((a.add (i.toNat * 5)).add 1) = some (.int .i64 c9) ∧ hcell h ((a.add (i.toNat * 5)).add 2) = some (.int .i64 c10) ∧ hcell h ((a.add (i.toNat * 5)).add 3) = some (.int .i64 c11) ∧ hcell h ((a.add (i.toNat * 5)).add 4) = some (.slice c12.base c12.len c12.cap) ∧ K c8 c9 c10 c11 c12 := by
  subst hi
  have hl := r.len
  rw [wcs_length] at hl
  have g : ∀ j, j < 5 → (wcs D)[k * 5 + j]? = (wc D[k])[j]? := fun j hj => by
    rw [wcs_get D k j hj, List.getElem?_eq_getElem hk]; rfl
  obtain ⟨a, ha, h0⟩ := r.rd (k * 5 + 0) _ (by rw [g 0 (by omega)]; rfl)
  obtain ⟨a1, ha1, h1⟩ := r.rd (k * 5 + 1) _ (by rw [g 1 (by omega)]; rfl)
  obtain ⟨a2, ha2, h2⟩ := r.rd (k * 5 + 2) _ (by rw [g 2 (by omega)]; rfl)
  obtain ⟨a3, ha3, h3⟩ := r.rd (k * 5 + 3) _ (by rw [g 3 (by omega)]; rfl)
  obtain ⟨a4, ha4, h4⟩ := r.rd (k * 5 + 4) _ (by rw [g 4 (by omega)]; rfl)
  rw [ha] at ha1 ha2 ha3 ha4
  cases ha1; cases ha2; cases ha3; cases ha4
  exact ⟨a, ha, by omega, by omega, _, _, _, _, _, by simpa using h0, by rw [add_add]; simpa using h1, by rw [add_add]; simpa using h2, by rw [add_add]; simpa using h3, by rw [add_add]; simpa using h4, hK⟩
/-- their bodies. -/
theorem bodies_spec {h : Hp} {s : Sl} {D : List WB} (r : Rd 5 h s (wcs D)) (hmax : D.length ≤ 100000) :
    HCalls Try.prog fn_seglog_bodies #[.slice s.base s.len s.cap] h fun r h' => ∃ t : Sl, r = .slice t.base t.len t.cap ∧ Own h.size 1 h' t (D.map fun x => slV x.2) ∧ t.len = D.length ∧ Ext h h' := by
  apply seglog_bodies_vc
  unfold vcseglog_bodies
  have hl := r.len
  rw [wcs_length] at hl
  refine ⟨fun out i m h' => ∃ k : Nat, i = k ∧ m + k = D.length ∧ Ext h h' ∧ Own h.size 1 h' out ((D.take k).map fun x => slV x.2) ∧ out.len = k, D.length, ⟨0, rfl, rfl, .refl h, Own.nil _ _ _, rfl⟩, ?_⟩
  rintro _ out _ m h1 ⟨k, rfl, hm, e1, o1, l1⟩
  have s1 := e1.size
  refine IfB.dec (fun hlt => ?_) (fun hge => ?_)
  · have hk : k < D.length := by omega
    refine ixw (r.ext e1) k rfl hk ?_
    intro h2
    refine put5 fun h3 e3 r3 => ?_
    refine ⟨D[k].2, r3.get rfl, ?_⟩
    have s3 := e3.size
    intro h4
    refine AppC_new (news := [slV D[k].2]) (n := 1) rfl (o1.ext e3) (by omega) rfl (fun v hv => by simp at hv; subst hv; rfl) (by rw [l1]; omega) (by rw [l1]; omega) fun t h5 o5 l5 k5 _ => ?_
    refine ⟨m - 1, by omega, k + 1, by rw [iAdd64 (by omega)]; push_cast; rfl, by omega, (e1.toKeep.trans ((e3.keep (by omega)).trans k5)).ext, ?_, by omega⟩
    rw [List.take_succ_eq_append_getElem hk, List.map_append]
    exact o5
  · obtain rfl : k = D.length := by omega
    rw [List.take_length] at o1
    exact ⟨out, rfl, o1, by omega, e1⟩

end Go.Proofs.Ytippdkokbhejmaa
