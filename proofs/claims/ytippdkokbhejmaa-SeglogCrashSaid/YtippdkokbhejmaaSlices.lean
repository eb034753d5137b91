/-
  slices.Clone, Equal, ContainsFunc, Grow, Concat of bytes: contracts.
-/
import Derived.Test.YtippdkokbhejmaaBits0
import Derived.Test.YtippdkokbhejmaaBridge2
namespace Go.Proofs.Ytippdkokbhejmaa
set_option linter.unusedVariables false
set_option linter.unusedSimpArgs false

theorem slEqual_spec {h : Hp} {s t : Sl} {a b : List UInt8} (ha : Rd 1 h s (a.map bv)) (hb : Rd 1 h t (b.map bv)) (hmax : a.length < 9223372036854775807) :
    HCalls Try.prog fn_slices_Equal_sbytebyte #[.slice s.base s.len s.cap, .slice t.base t.len t.cap] h fun r h' => r = .bool (decide (a = b)) ∧ h' = h := by
  apply slices_Equal_sbytebyte_vc
  unfold vcslices_Equal_sbytebyte
  have la := ha.lenB
  have lb := hb.lenB
  refine IfB.ne (fun hne => ⟨?_, rfl⟩) (fun heq => ?_)
  · rw [decide_eq_false]; rintro rfl; omega
  refine ⟨fun i m h' => h = h' ∧ ∃ k : Nat, i = k ∧ m + k = a.length ∧ a.take k = b.take k, a.length, ⟨rfl, 0, rfl, rfl, rfl⟩, ?_⟩
  rintro _ _ m _ ⟨rfl, k, rfl, hm, ht⟩
  refine IfB.dec (fun hlt => ?_) (fun hge => ?_)
  · refine ixB ha.rd la k rfl (by omega) ?_
    refine ixB hb.rd lb k rfl (by omega) ?_
    refine IfB.ne (fun hne => ⟨?_, rfl⟩) (fun he => ?_)
    · rw [decide_eq_false]; rintro rfl; exact hne rfl
    · refine ⟨m - 1, by omega, rfl, k + 1, ?_, by omega, ?_⟩
      · rw [iAdd64 (by omega)]; push_cast; rfl
      · rw [List.take_succ_eq_append_getElem (by omega), List.take_succ_eq_append_getElem (by omega), ht]
        congr 2
        exact UInt8.toNat_inj.1 (by omega)
  · refine ⟨?_, rfl⟩
    rw [List.take_of_length_le (by omega), List.take_of_length_le (by omega)] at ht
    rw [decide_eq_true ht]
/-- a copy. -/
theorem slClone_spec {h : Hp} {s : Sl} {l : List UInt8} (r : Rd 1 h s (l.map bv)) (hmax : l.length ≤ 140737488355328) :
    HCalls Try.prog fn_slices_Clone_sbytebyte #[.slice s.base s.len s.cap] h (NewB h l) := by
  apply slices_Clone_sbytebyte_vc
  unfold vcslices_Clone_sbytebyte
  have ll := r.lenB
  refine IfB.nilp (fun hn => ?_) (fun a ha => ?_)
  · have : l = [] := by
      rcases l with _ | ⟨x, l⟩
      · rfl
      · obtain ⟨a, ha, _⟩ := r.rd 0 (bv x) rfl; rw [hn] at ha; cases ha
    subst this
    exact ⟨Sl.nil, rfl, Own.nil _ _ _, rfl, .refl h⟩
  · have o0 : Own h.size 1 (alc h [] ty_uint8) ⟨some (nw h), 0, 0⟩ [] := Own.alc h [] ty_uint8 0 1 rfl
    refine AppC_own (news := l.map bv) rfl o0 (by rw [size_alc]; omega) (by simpa using ll) (r.ext (alc_ext _ _ _)).rd (cellOk_bv l) (by simp; omega) (by simp; omega) fun t h1 o1 l1 k1 _ => ?_
    exact ⟨t, rfl, by simpa using o1, by rw [l1]; simp; omega, (((alc_ext h [] ty_uint8).toKeep).trans k1).ext⟩
/-- room, in a slice that is nil. -/
theorem slGrow_spec (n : Nat) (hn : n ≤ 140737488355328) (h : Hp) :
    HCalls Try.prog fn_slices_Grow_sbytebyte #[.slice Sl.nil.base Sl.nil.len Sl.nil.cap, .int .i64 (n : Int)] h fun r h' => ∃ t : Sl, r = .slice t.base t.len t.cap ∧ Own h.size 1 h' t [] ∧ t.len = 0 ∧ Ext h h' := by
  apply slices_Grow_sbytebyte_vc
  unfold vcslices_Grow_sbytebyte
  have e0 : iSub .i64 (n : Int) (iSub .i64 ((Sl.nil.cap : Nat) : Int) ((Sl.nil.len : Nat) : Int)) = (n : Int) := by
    show iSub .i64 (n : Int) (iSub .i64 ((0 : Nat) : Int) ((0 : Nat) : Int)) = _
    rw [iSub64 (a := ((0 : Nat) : Int)) (by omega), iSub64 (by omega)]; omega
  rw [e0]
  refine IfB.dec (fun hh => by omega) (fun _ => IfB.dec (fun hpos => ⟨by omega, by simp [Sl.nil], by omega, by omega, ?_⟩) (fun _ => ⟨Sl.nil, rfl, Own.nil _ _ _, rfl, .refl h⟩))
  have ec : cutSl Sl.nil (0 : Int) ((Sl.nil.cap : Nat) : Int) ((Sl.nil.cap : Nat) : Int) 1 = Sl.nil := rfl
  rw [ec]
  refine AppZ_own (m := n) rfl (Own.nil h.size 1 h) (Nat.le_refl _) rfl (by simp [Sl.nil]; omega) (by simp [Sl.nil]; omega) fun t h1 o1 l1 k1 _ => ?_
  refine ⟨by omega, by simp [Sl.nil], by simp [Sl.nil], by omega, ?_⟩
  have hcap := o1.le
  have hl := o1.len
  refine ⟨_, rfl, ⟨by simp [cutSl, Sl.nil], by simp [cutSl, Sl.nil], ?_⟩, by simp [cutSl, Sl.nil], k1.ext⟩
  rcases o1.row with ⟨g1, g2⟩ | ⟨b, c, e, g1, g2, g3, g4, g5⟩
  · exact .inl ⟨by simp [cutSl, g1], by simp [cutSl, g2]⟩
  · refine .inr ⟨b, c, e, ?_, g2, g3, by simpa [cutSl] using g4, by simp [cutSl, Sl.nil]⟩
    simp only [cutSl, g1]
    split
    · rfl
    · simp [add_none]
def catS (l : List (Sl × List UInt8)) : List UInt8 := (l.map (·.2)).flatten
theorem catS_snoc {l : List (Sl × List UInt8)} {j : Nat} (hj : j < l.length) : catS (l.take (j + 1)) = catS (l.take j) ++ l[j].2 := by
  unfold catS; rw [List.take_succ_eq_append_getElem hj, List.map_append, List.flatten_append]
  simp only [List.map_cons, List.map_nil, List.flatten_cons, List.flatten_nil, List.append_nil]
theorem catS_take_le (l : List (Sl × List UInt8)) (j : Nat) : (catS (l.take j)).length ≤ (catS l).length := by
  have : catS l = catS (l.take j) ++ catS (l.drop j) := by
    unfold catS
    rw [← List.flatten_append, ← List.map_append, List.take_append_drop]
  rw [this, List.length_append]; omega
/-- all one after the other. -/
theorem slConcat_spec {h : Hp} {s : Sl} {rows : List (Sl × List UInt8)} (hl : rows.length = s.len) (hr : RdC h s.base (rows.map fun p => slV p.1)) (each : ∀ p ∈ rows, Rd 1 h p.1 (p.2.map bv)) (hs : s.len ≤ 1000000) (hmax : (catS rows).length ≤ 140737488355328) :
    HCalls Try.prog fn_slices_Concat_sbytebyte #[.slice s.base s.len s.cap] h (NewB h (catS rows)) := by
  apply slices_Concat_sbytebyte_vc
  unfold vcslices_Concat_sbytebyte
  have row : ∀ {h9 : Hp}, Ext h h9 → ∀ (j : Nat) (hj : j < rows.length) {K : Sl → Prop}, K rows[j].1 → ∃ a : Addr, s.base = some a ∧ 0 ≤ (j : Int) ∧ (j : Int) < (s.len : Int) ∧ ∃ c : Sl, hcell h9 (a.add ((j : Int).toNat * 1)) = some (.slice c.base c.len c.cap) ∧ K c := fun e9 j hj K hK =>
    ix1 (hr.ext e9) (by simpa using hl) j rfl (by simpa using hj) fun a _ hc => ⟨_, by simpa [slV] using hc, hK⟩
  have ln : ∀ (j : Nat) (hj : j < rows.length), rows[j].1.len = rows[j].2.length ∧ (catS (rows.take j)).length + rows[j].2.length ≤ (catS rows).length := fun j hj => by
    have h1 := (each rows[j] (List.getElem_mem hj)).lenB
    have h2 := catS_take_le rows (j + 1)
    rw [catS_snoc hj, List.length_append] at h2
    exact ⟨h1.symm, h2⟩
  refine ⟨fun n i m h' => h = h' ∧ ∃ j : Nat, i = j ∧ m + j = rows.length ∧ n = ((catS (rows.take j)).length : Int), rows.length, ⟨rfl, 0, rfl, rfl, rfl⟩, ?_⟩
  rintro _ _ _ m _ ⟨rfl, j, rfl, hm, rfl⟩
  refine IfB.dec (fun hlt => ?_) (fun hge => ?_)
  · have hj : j < rows.length := by omega
    obtain ⟨l1, l2⟩ := ln j hj
    refine row (.refl h) j hj ?_
    rw [iAdd64 (by omega)]
    refine IfB.dec (fun hh => by omega) (fun _ => ⟨m - 1, by omega, rfl, j + 1, by rw [iAdd64 (by omega)]; push_cast; rfl, by omega, ?_⟩)
    rw [catS_snoc hj, List.length_append, l1]; push_cast; rfl
  · obtain rfl : j = rows.length := by omega
    rw [List.take_length]
    refine (slGrow_spec _ hmax h).mono ?_
    rintro _ h1 ⟨t, rfl, o1, t0, e1⟩
    refine ⟨_, rfl, ?_⟩
    refine ⟨fun t i m h' => ∃ j : Nat, i = j ∧ m + j = rows.length ∧ Ext h h' ∧ Own h.size 1 h' t ((catS (rows.take j)).map bv), rows.length, ⟨0, rfl, rfl, e1, by simpa [catS] using o1⟩, ?_⟩
    rintro _ t2 _ m2 h2 ⟨q, rfl, hq, e2, o2⟩
    refine IfB.dec (fun hlt2 => ?_) (fun hge2 => ?_)
    · have hq' : q < rows.length := by omega
      obtain ⟨l1, l2⟩ := ln q hq'
      have hbl := o2.len
      rw [List.length_map] at hbl
      refine row e2 q hq' ?_
      have hR := (each rows[q] (List.getElem_mem hq')).ext e2
      refine AppC_own (news := rows[q].2.map bv) rfl o2 e2.size (by simpa using l1.symm) hR.rd (cellOk_bv _) (by omega) (by omega) fun r h3 o3 l3 k3 _ => ?_
      rw [← List.map_append, ← catS_snoc hq'] at o3
      exact ⟨m2 - 1, by omega, q + 1, by rw [iAdd64 (by omega)]; push_cast; rfl, by omega, (e2.toKeep.trans k3).ext, o3⟩
    · obtain rfl : q = rows.length := by omega
      rw [List.take_length] at o2
      exact ⟨t2, rfl, o2, by simpa using o2.len.symm, e2⟩

end Go.Proofs.Ytippdkokbhejmaa
