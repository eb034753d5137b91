/-
  BatchRow (chapter 17).
-/
import Derived.Test.YtehhkjgcklhfcaaLaw17a
import Derived.Test.YtehhkjgcklhfcaaLab2
namespace Go.Proofs.Ytehhkjgcklhfcaa
set_option linter.unusedVariables false
set_option linter.unusedSimpArgs false

abbrev BatD := (Int × Sl) × List TxD
def encD (x : BatD) : List (List UInt8) := encB x.1.1.toNat 1 x.2
def encAll (L : List BatD) (k : Nat) : List (List UInt8) := (L.take k).flatMap encD
def endN (L : List BatD) (k : Nat) : Nat := (encAll L k).length
theorem encAll_succ {L : List BatD} {k : Nat} (h : k < L.length) : encAll L (k + 1) = encAll L k ++ encD L[k] := by
  unfold encAll; rw [List.take_succ_eq_append_getElem h, List.flatMap_append]; simp
theorem encD_len (x : BatD) : (encD x).length = blocksN x.2 := encB_len _ _ _
theorem endN_succ {L : List BatD} {k : Nat} (h : k < L.length) : endN L (k + 1) = endN L k + blocksN L[k].2 := by
  unfold endN; rw [encAll_succ h, List.length_append, encD_len]
theorem endN_mono {L : List BatD} {j k : Nat} (hjk : j ≤ k) (hk : k ≤ L.length) : endN L j ≤ endN L k := by
  induction k with
  | zero => obtain rfl : j = 0 := by omega
            exact Nat.le_refl _
  | succ k ih =>
    rcases Nat.lt_or_ge j (k + 1) with h | h
    · have := ih (by omega) (by omega); rw [endN_succ (by omega)]; omega
    · obtain rfl : j = k + 1 := by omega
      exact Nat.le_refl _
theorem encAll_split {L : List BatD} {j : Nat} (h : j < L.length) : encAll L L.length = encAll L j ++ (encD L[j] ++ (L.drop (j + 1)).flatMap encD) := by
  unfold encAll
  rw [List.take_length]
  conv => lhs; rw [← List.take_append_drop j L, List.drop_eq_getElem_cons h]
  rw [List.flatMap_append, List.flatMap_cons]
theorem endsV_succ (L : List BatD) (k : Nat) : ((List.range (k + 1)).map fun j => Value.int .i64 (endN L j : Int)) ++ [.int .i64 (endN L (k + 1) : Int)] = (List.range (k + 1 + 1)).map fun j => Value.int .i64 (endN L j : Int) := by
  rw [List.range_succ (n := k + 1), List.map_append]; rfl

theorem BatchRow_law {h : Hp} (l : Sl) (L : List BatD) (w : InBs h l L) (cut : Int) (_ : (Lit.int .i64 cut).wf = true) :
    HCalls Try.prog fn_scarplaw17_BatchRow #[.slice l.base l.len l.cap, .int .i64 cut] h (Yes h) := by
  apply scarplaw17_BatchRow_vc
  unfold vcscarplaw17_BatchRow
  obtain ⟨hL, hm, rd, each⟩ := w
  refine IfB.dec (fun _ => aw17 (.refl h)) (fun h8 => ?_)
  intro h1
  have e1 : Ext h h1 := alc_ext _ _ _
  refine ⟨fun all ends i m h' => ∃ (k : Nat) (F : Nat → Bool) (rows : List (Sl × List UInt8)), i = k ∧ m + k = L.length ∧ Ext h h' ∧ RV h.size F h' all rows ends ((List.range (k + 1)).map fun j => .int .i64 (endN L j : Int)) ∧ rows.map (·.2) = encAll L k ∧ endN L k ≤ 33 * k ∧ ∀ j (hj : j < L.length), j < k → CheckP L[j].1.1 L[j].2 ∧ SmallT L[j].2, L.length,
    ⟨0, fun _ => false, [], rfl, rfl, e1, ⟨OwnRows.nil _ _, ⟨fun a ha => (by cases ha), fun p hp => by simp at hp⟩, Own.alc h _ _ 1 1 rfl, fun a ha => rfl⟩, rfl, (by simp [endN, encAll]), fun j hj hk => by omega⟩, ?_⟩
  rintro _ all ends _ m h2 ⟨k, F, rows, rfl, hmk, e2, rv, hrows, hend, hch⟩
  have s2 := e2.size
  have hrl : rows.length = endN L k := by have := congrArg List.length hrows; simpa [endN] using this
  refine IfB.dec (fun hlt => ?_) (fun hge => ?_)
  · have hk : k < L.length := by omega
    have r2 := rd.ext e2
    have hmem : L[k] ∈ L := List.getElem_mem hk
    obtain ⟨wn, wt, wm, we⟩ := each _ hmem
    refine ix2 r2 k rfl (by simpa using hk) fun a c0 c1 => ?_
    simp only [List.getElem_map] at c0 c1
    refine ⟨_, c1, ?_⟩
    refine (small_spec (wt.ext e2) (by rw [wt.len]; exact wm) we).mono ?_
    rintro _ h3 ⟨e3, sm, rfl, hsm⟩
    have e03 := e2.trans e3
    refine ⟨sm, rfl, IfB.not (IfB.intro (fun hst => ?_) (fun _ => aw17 e03))⟩
    have hS := hsm hst
    refine ix2 (r2.ext e3) k rfl (by simpa using hk) fun a c0 c1 => ?_
    simp only [List.getElem_map] at c0 c1
    refine ⟨_, _, c0, c1, ?_⟩
    have s3 := e03.size
    refine (BEncode_spec L[k].1.1 1 ((wt.ext e03).mono fun b hb => by omega) hS.pt).mono ?_
    rintro _ h4 ⟨e4, ⟨hno, rfl⟩ | ⟨⟨ck, _, _⟩, t, rows2, rfl, ot, hrows2⟩⟩
    · exact ⟨Sl.nil, _, rfl, .yes rfl (aw17 (e03.trans e4))⟩
    refine ⟨t, _, rfl, .no rfl ?_⟩
    have hrl2 : rows2.length = blocksN L[k].2 := by have := congrArg List.length hrows2; rw [encB_len] at this; simpa using this
    have hblk := ck.blocks
    have hes := endN_succ hk
    refine RV.append rfl (rv.ext e3) s3 e4 ot (by omega) (by omega) fun r h5 F5 rv5 k5 l5 => ?_
    have s5 := k5.size
    intro h6
    have hlen5 : (r.len : Int) = (endN L (k + 1) : Int) := by omega
    have hh6 : h6 = alc h5 [.int .i64 (endN L (k + 1) : Int)] ty_int := by show alc h5 [.int .i64 (r.len : Int)] ty_int = _; rw [hlen5]
    rw [hh6]
    refine rv5.pushV rfl (by omega) rfl (by simp; omega) (by omega) fun r2 h7 F7 rv7 k7 l7 => ?_
    rw [endsV_succ] at rv7
    refine ⟨m - 1, by omega, k + 1, F7, _, by rw [iAdd64 (by omega)]; push_cast; rfl, by omega, ?_, rv7, ?_, by omega, fun j hj hjk => ?_⟩
    · exact (e03.toKeep.trans ((k5.trans (k7.le (by omega))))).ext
    · rw [List.map_append, hrows, hrows2, encAll_succ hk]; rfl
    · rcases Nat.lt_or_ge j k with h | h
      · exact hch j hj h
      · obtain rfl : j = k := by omega
        exact ⟨ck, hS⟩
  obtain rfl : k = L.length := by omega
  have htl := rv.o.len
  have hcap := rv.o.own.le
  rw [iAdd64 (by omega)]
  refine (Round_spec cut ((all.len : Int) + 1) (by omega) (by omega) h2).mono ?_
  rintro _ h3 ⟨rfl, rfl⟩
  have hm1 := Int.emod_nonneg cut (show ((all.len : Int) + 1) ≠ 0 by omega)
  have hm2 := Int.emod_lt_of_pos cut (show (0 : Int) < (all.len : Int) + 1 by omega)
  obtain ⟨c, hc, hc2⟩ : ∃ c : Nat, cut % ((all.len : Int) + 1) = c ∧ c ≤ endN L L.length := ⟨(cut % ((all.len : Int) + 1)).toNat, by omega, by omega⟩
  rw [hc]
  refine ⟨_, rfl, by omega, by omega, by omega, by omega, ?_⟩
  have hck : ∀ j (hj : j < L.length), CheckP L[j].1.1 L[j].2 ∧ SmallT L[j].2 := fun j hj => hch j hj hj
  have hb2 : ∀ j (hj : j < L.length), endN L j + 2 ≤ endN L (j + 1) := fun j hj => by
    have := blocks2 (hck j hj).1; rw [endN_succ hj]; omega
  have rc : RowsR h3 (cutSl all ((0 : Nat) : Int) (c : Int) (all.cap : Int) 1) (rows.take c) := by
    have hc' := rv.o.own.toRd.cut (lo := 0) (hi := c) (m := all.cap) (by omega) (by omega) (by omega)
    refine ⟨?_, by rw [cut_len]; simp; omega, fun p hp => rv.o.each p (List.mem_of_mem_take hp)⟩
    have := hc'.rd
    simpa [List.map_take] using this
  have lends : ends.len = L.length + 1 := by have := rv.b.len; simpa using this.symm
  refine ⟨fun rest n h' => ∃ j : Nat, n = j ∧ j ≤ L.length ∧ endN L j ≤ c ∧ rest.len + endN L j = c ∧ (j = L.length ∨ c < endN L (j + 1)) ∧ Ext h3 h',
    ⟨fun rest n m h' => ∃ j : Nat, n = j ∧ m + j = L.length ∧ endN L j ≤ c ∧ RowsR h' rest ((rows.take c).drop (endN L j)) ∧ rest.len ≤ rest.cap ∧ Ext h3 h', L.length, ⟨0, rfl, rfl, (by simp [endN, encAll]), (by simpa [endN, encAll] using rc), (by show (cutSl all ((0 : Nat) : Int) (c : Int) (all.cap : Int) 1).len ≤ (cutSl all ((0 : Nat) : Int) (c : Int) (all.cap : Int) 1).cap; rw [cut_len, cut_cap]; omega), .refl _⟩, ?_⟩, ?_⟩
  · rintro _ rest _ m4 h4 ⟨j, rfl, hmj, hjc, rr, hrc, e4⟩
    have hrr := rr.len
    simp only [List.length_drop, List.length_take] at hrr
    refine IfB.dec (fun hpos => ?_) (fun hz => ?_)
    · have hjl : j < L.length := by
        rcases Nat.lt_or_ge j L.length with h | h
        · exact h
        · obtain rfl : j = L.length := by omega
          omega
      obtain ⟨ck, hS⟩ := hck j hjl
      have hnum := ck.num
      obtain ⟨nm, hnm⟩ : ∃ q : Nat, L[j].1.1 = q := ⟨L[j].1.1.toNat, by omega⟩
      have hed : encD L[j] = encB nm 1 L[j].2 := by unfold encD; rw [hnm, Int.toNat_natCast]
      rw [hnm] at ck
      have hes := endN_succ hjl
      refine (BDecode_spec rr (by simp; omega)).mono ?_
      rintro _ h5 ⟨e5, num5, t5, ep5, n5, err5, rfl, d5⟩
      rw [List.map_drop, List.map_take, hrows, encAll_split hjl, List.drop_take] at d5
      have hdr : (encAll L j ++ (encD L[j] ++ (L.drop (j + 1)).flatMap encD)).drop (endN L j) = encD L[j] ++ (L.drop (j + 1)).flatMap encD := List.drop_left' rfl
      rw [hdr, hed] at d5
      have hel := encB_len nm 1 L[j].2
      refine ⟨_, t5, _, _, _, rfl, ?_⟩
      intro h6
      refine loc2 rfl rfl fun h7 e7 r7 => ?_
      rcases Nat.lt_or_ge c (endN L (j + 1)) with hlt | hge'
      · rw [List.take_append_of_le_length (by omega)] at d5
        obtain ⟨rfl, rfl⟩ := decCut ck (by omega) (by omega) d5
        exact .yes rfl ⟨j, rfl, by omega, hjc, by omega, .inr hlt, (e4.trans e5).trans e7⟩
      · rw [List.take_append, List.take_of_length_le (by omega)] at d5
        obtain ⟨rfl, rfl, rfl, rfl, rt5⟩ := decOk d5 (isB_self ck (by omega) _)
        have hb := blocks2 ck
        refine .no rfl (.no rfl (.no (by simp; omega) ?_))
        refine r7.get2s ?_
        have e47 := e5.trans e7
        have e07 := (e2.trans e4).trans e47
        have hmem : L[j] ∈ L := List.getElem_mem hjl
        obtain ⟨wn, wt, wm, we⟩ := each _ hmem
        refine ix2 (rd.ext e07) j rfl (by simpa using hjl) fun a c0 c1 => ?_
        simp only [List.getElem_map] at c0 c1
        refine ⟨_, _, c0, c1, ?_⟩
        refine (SameBatch_spec _ _ (rt5.ext e7) (wt.ext e07) (by have := hS.len; omega) hS.pt).mono ?_
        rintro _ h8 ⟨e8, sb, rfl, hsb⟩
        have hsbt : sb = true := hsb.2 ⟨hnm.symm, rfl⟩
        subst hsbt
        refine ⟨true, rfl, e8, .no rfl (.no (by simp; omega) (.no (by simp; omega) ⟨by omega, by omega, by omega, by omega, m4 - 1, by omega, j + 1, by rw [iAdd64 (by omega)]; push_cast; rfl, by omega, by omega, ?_, by simp only [cut_len, cut_cap]; omega, (e4.trans e47).trans e8⟩))⟩
        have rr8 := rr.ext (e47.trans e8)
        have hq : (((blocksN L[j].2 - 1 + 1 : Nat)) : Int) = ((blocksN L[j].2 : Nat) : Int) := by omega
        rw [hq]
        have hd2 : ((rows.take c).drop (endN L (j + 1))) = ((rows.take c).drop (endN L j)).drop (blocksN L[j].2) := by rw [List.drop_drop, hes]
        rw [hd2]
        have rd8 : Rd 1 h8 rest (((rows.take c).drop (endN L j)).map fun p => slV p.1) := ⟨by simpa using rr.len.symm, hrc, rr8.rd⟩
        have hcc := rd8.cut (lo := blocksN L[j].2) (hi := rest.len) (m := rest.cap) (by omega) (by omega) (by omega)
        rw [Nat.mul_one, Nat.mul_one, List.take_of_length_le (by simp; omega), ← List.map_drop] at hcc
        exact ⟨hcc.rd, by rw [cut_len]; simp; omega, fun p hp => rr8.each p (List.mem_of_mem_drop hp)⟩
    · exact ⟨j, rfl, by omega, hjc, by omega, by
        rcases Nat.lt_or_ge j L.length with h | h
        · right; have := hb2 j h; omega
        · left; omega, e4⟩
  · rintro _ rest _ h4 ⟨j, rfl, hjl, hjc, hrest, hjm, e4⟩
    have ends4 := rv.b.toRd.ext e4
    have getE : ∀ (q : Nat) {i : Int} (hi : i = q) (_ : q ≤ L.length) {h' : Hp} (_ : Ext h3 h') {K : Int → Prop}, K (endN L q : Int) → ∃ a : Addr, ends.base = some a ∧ 0 ≤ i ∧ i < (ends.len : Int) ∧ ∃ c : Int, hcell h' (a.add (i.toNat * 1)) = some (.int .i64 c) ∧ K c := fun q i hi hq h' e' K hK => by
      have r' := rv.b.toRd.ext e'
      refine ix1 r'.rd (by simpa using r'.len) q hi (by simp; omega) fun a _ hcell => ⟨(endN L q : Int), by simpa using hcell, hK⟩
    refine ⟨fun want h' => want = j ∧ Ext h3 h', ⟨fun want m h' => ∃ q : Nat, want = q ∧ m + q = L.length ∧ endN L q ≤ c ∧ Ext h3 h', L.length, ⟨0, rfl, rfl, (by simp [endN, encAll]), e4⟩, ?_⟩, ?_⟩
    · rintro _ _ m5 h5 ⟨q, rfl, hmq, hqc, e5⟩
      have fin : (q = L.length ∨ c < endN L (q + 1)) → (q : Int) = j := fun hq => by
        rcases Nat.lt_trichotomy q j with h | h | h
        · rcases hq with hq | hq
          · omega
          · have := endN_mono (L := L) (show q + 1 ≤ j by omega) hjl; omega
        · omega
        · rcases hjm with hq' | hq'
          · omega
          · have := endN_mono (L := L) (show j + 1 ≤ q by omega) (by omega); omega
      have ei : iAdd .i64 (q : Int) (1 : Int) = ((q + 1 : Nat) : Int) := by rw [iAdd64 (by omega)]; push_cast; rfl
      rw [ei]
      refine IfB.dec (fun hlt => ?_) (fun hge => ?_)
      · refine getE (q + 1) rfl (by omega) e5 (IfB.dec (fun hle => ⟨m5 - 1, by omega, q + 1, rfl, by omega, by omega, e5⟩) (fun hgt => ⟨fin (.inr (by omega)), e5⟩))
      · exact ⟨fin (.inl (by omega)), e5⟩
    · rintro _ _ h5 ⟨rfl, e5⟩
      refine .yes (by simp) (getE j rfl hjl e5 (.yes ?_ (aw17 (e2.trans e5))))
      rw [iSub64 (by omega)]
      simp; omega

end Go.Proofs.Ytehhkjgcklhfcaa
