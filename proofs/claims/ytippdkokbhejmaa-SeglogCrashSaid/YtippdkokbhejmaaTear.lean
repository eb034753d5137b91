/-
  A device of which the power may go: what its ops may do; what a crash leaves of blocks that were written one behind the other.
-/
import Derived.Test.YtippdkokbhejmaaZr
namespace Go.Proofs.Ytippdkokbhejmaa
set_option linter.unusedVariables false
set_option linter.unusedSimpArgs false

/-- a device as great. -/
structure NxD (d e : Dv) : Prop where
  wf : e.Wf
  n : e.n = d.n
  size : e.size = d.size
theorem NxD.trans {a b c : Dv} (x : NxD a b) (y : NxD b c) : NxD a c := ⟨y.wf, y.n.trans x.n, y.size.trans x.size⟩
theorem NxD.tick {d : Dv} (w : d.Wf) : NxD d d.tick := ⟨w.tick, rfl, rfl⟩
theorem append_any {d : Dv} {k : Nat} (hk : k < d.n) {p : List UInt8} (hp : p.length = 64) (hr : (d.z k).rows.length < d.size) :
    d.append (k : Int) p = (((0 : Int), (12 : Int)), d.tick) ∨ d.append (k : Int) p = ((((d.z k).rows.length : Int), (0 : Int)), d.tick.setZ k ⟨(d.z k).rows ++ [p], (d.z k).good⟩) := by
  unfold Dv.append
  rw [if_neg (by omega), if_neg (by omega), Int.toNat_natCast]
  by_cases hd : d.dead = true
  · rw [if_pos hd]; exact .inl rfl
  · rw [if_neg hd, if_neg (by omega)]; exact .inr rfl
theorem reset_any {d : Dv} {k : Nat} (hk : k < d.n) : d.reset (k : Int) = (12, d.tick) ∨ d.reset (k : Int) = (0, d.tick.setZ k ⟨[], 0⟩) := by
  unfold Dv.reset
  rw [if_neg (by omega), Int.toNat_natCast]
  by_cases hd : d.dead = true
  · rw [if_pos hd]; exact .inl rfl
  · rw [if_neg hd]; exact .inr rfl
theorem flush_any (d : Dv) : d.flush = (12, d.tick) ∨ d.flush = (0, d.tick.flushed) := by
  unfold Dv.flush
  by_cases hd : d.dead = true
  · rw [if_pos hd]; exact .inl rfl
  · rw [if_neg hd]; exact .inr rfl
theorem Dv.empty_z {d : Dv} (w : d.Wf) {z : Nat} (hz : (d.z z).rows.length = 0) : d.z z = ⟨[], 0⟩ := by
  have hg := (w.zone z).good
  have hr : (d.z z).rows = [] := List.eq_nil_of_length_eq_zero hz
  cases hd : d.z z with
  | mk rows good => rw [hd] at hr hg; simp only at hr hg; subst hr; simp at hg; subst hg; rfl
theorem wf_empty (size : Nat) : (⟨[], 0⟩ : Zn).Wf size := ⟨Nat.zero_le _, Nat.zero_le _, fun p hp => by simp at hp⟩
/-- zones are emptied one by one, till the power goes. -/
theorem clear_any : ∀ (k : Nat) (d : Dv) (z : Nat), d.Wf → z + k ≤ d.n → NxD d (d.clear z k).2 ∧ ∃ j, j ≤ k ∧ ((d.clear z k).1 = 0 ∧ j = k ∨ (d.clear z k).1 = 12) ∧ ∀ i, (d.clear z k).2.z i = if z ≤ i ∧ i < z + j then ⟨[], 0⟩ else d.z i := by
  intro k
  induction k with
  | zero => intro d z w h; exact ⟨⟨w, rfl, rfl⟩, 0, Nat.le_refl _, .inl ⟨rfl, rfl⟩, fun j => by rw [if_neg (by omega)]; rfl⟩
  | succ k ih =>
    intro d z w h
    have hzn : z < d.zs.length := by have := w.n; omega
    rw [Dv.clear]
    have more : ∀ (d1 : Dv), d1.Wf → d1.n = d.n → d1.size = d.size → (∀ i, d1.z i = if i = z then ⟨[], 0⟩ else d.z i) →
        NxD d (d1.clear (z + 1) k).2 ∧ ∃ j, j ≤ k + 1 ∧ ((d1.clear (z + 1) k).1 = 0 ∧ j = k + 1 ∨ (d1.clear (z + 1) k).1 = 12) ∧ ∀ i, (d1.clear (z + 1) k).2.z i = if z ≤ i ∧ i < z + j then ⟨[], 0⟩ else d.z i := by
      intro d1 w1 hn1 hs1 hz1
      obtain ⟨h1, j, hj, h2, h3⟩ := ih d1 (z + 1) w1 (by omega)
      refine ⟨NxD.trans ⟨w1, hn1, hs1⟩ h1, j + 1, by omega, ?_, fun i => ?_⟩
      · rcases h2 with ⟨h2, e⟩ | h2
        · exact .inl ⟨h2, by omega⟩
        · exact .inr h2
      · rw [h3, hz1]
        by_cases hi : i = z
        · subst hi; rw [if_neg (by omega), if_pos rfl, if_pos (by omega)]
        · rw [if_neg hi]
          by_cases hc : z + 1 ≤ i ∧ i < z + 1 + j
          · rw [if_pos hc, if_pos (by omega)]
          · rw [if_neg hc, if_neg (by omega)]
    by_cases hz : (d.z z).rows.length = 0
    · rw [if_pos hz]
      refine more d w rfl rfl fun i => ?_
      by_cases hi : i = z
      · subst hi; rw [if_pos rfl]; exact Dv.empty_z w hz
      · rw [if_neg hi]
    · rw [if_neg hz]
      rcases reset_any (d := d) (k := z) (by omega) with e | e
      · rw [e, if_pos (by simp)]
        exact ⟨NxD.tick w, 0, Nat.zero_le _, .inr rfl, fun i => by rw [if_neg (by omega)]; rfl⟩
      · rw [e, if_neg (by simp)]
        refine more _ (w.tick.setZ z (wf_empty _)) rfl rfl fun i => ?_
        rw [d.tick.z_set hzn]; rfl
/-- blocks are written one behind the other, till the power goes. -/
theorem puts_any {base cnt : Nat} {ps : List (List UInt8)} (h64 : ∀ p ∈ ps, p.length = 64) : ∀ (r : List (List UInt8)) (d : Dv) (k : Nat), d.Wf → base + cnt ≤ d.n → ps.length ≤ cnt * d.size → ps.drop k = r → k ≤ ps.length → (∀ m, m < cnt → (d.z (base + m)).rows = part d.size (ps.take k) m) →
    NxD d (d.puts base d.size k r).2 ∧ ∃ q, k ≤ q ∧ q ≤ ps.length ∧ ((d.puts base d.size k r).1 = 0 ∧ q = ps.length ∨ (d.puts base d.size k r).1 = 12) ∧ (∀ m, m < cnt → ((d.puts base d.size k r).2.z (base + m)).rows = part d.size (ps.take q) m ∧ ((d.puts base d.size k r).2.z (base + m)).good = (d.z (base + m)).good) ∧ ∀ j, (j < base ∨ base + cnt ≤ j) → (d.puts base d.size k r).2.z j = d.z j := by
  intro r
  induction r with
  | nil =>
    intro d k w hn hc hr hk hz
    have hkl : k = ps.length := by have := congrArg List.length hr; simp at this; omega
    exact ⟨⟨w, rfl, rfl⟩, k, Nat.le_refl _, hk, .inl ⟨rfl, hkl⟩, fun m hm => ⟨hz m hm, rfl⟩, fun j _ => rfl⟩
  | cons p r ih =>
    intro d k w hn hc hr hk hz
    have hkl : k < ps.length := by have := congrArg List.length hr; simp at this; omega
    have hs := w.size
    have hpk : ps[k] = p := by
      have := List.drop_eq_getElem_cons hkl
      rw [hr] at this
      exact (List.cons.inj this).1.symm
    have hr' : ps.drop (k + 1) = r := by
      have := List.drop_eq_getElem_cons hkl
      rw [hr] at this
      exact (List.cons.inj this).2.symm
    have hq : k / d.size < cnt := by
      rw [Nat.div_lt_iff_lt_mul (by omega)]; omega
    have hzq := hz _ hq
    have hlt := part_len (size := d.size) (ps := ps) (k := k) (by omega) hkl
    have hb : base + k / d.size < d.zs.length := by have := w.n; omega
    have hp64 : p.length = 64 := h64 p (by rw [← hpk]; exact List.getElem_mem hkl)
    rcases append_any (d := d) (k := base + k / d.size) (by have := w.n; omega) hp64 (by rw [hzq]; exact hlt) with happ | happ
    · rw [Dv.puts, happ, if_pos (by simp)]
      exact ⟨NxD.tick w, k, Nat.le_refl _, hk, .inr rfl, fun m hm => ⟨hz m hm, rfl⟩, fun j _ => rfl⟩
    rw [Dv.puts, happ, if_neg (by simp)]
    have hzw := w.zone (base + k / d.size)
    let d' := d.tick.setZ (base + k / d.size) ⟨(d.z (base + k / d.size)).rows ++ [p], (d.z (base + k / d.size)).good⟩
    have w' : d'.Wf := w.tick.setZ _ ⟨by rw [List.length_append, hzq]; simp; show _ ≤ d.size; omega, by have := hzw.good; simp; omega, fun y hy => by
      rcases List.mem_append.1 hy with hy | hy
      · exact hzw.each y hy
      · simp only [List.mem_cons, List.not_mem_nil, or_false] at hy
        subst hy; exact hp64⟩
    have hz' : ∀ m, m < cnt → (d'.z (base + m)).rows = part d'.size (ps.take (k + 1)) m := fun m hm => by
      show ((d.tick.setZ _ _).z (base + m)).rows = part d.size _ m
      rw [part_snoc (by omega) hkl, d.tick.z_set hb, hpk]
      by_cases e : m = k / d.size
      · subst e; rw [if_pos rfl, if_pos rfl, hzq]
      · rw [if_neg (by omega), if_neg e]; exact hz m hm
    obtain ⟨h1, q, hkq, hql, h2, h3, h4⟩ := ih d' (k + 1) w' hn hc hr' hkl hz'
    refine ⟨NxD.trans ⟨w', rfl, rfl⟩ h1, q, by omega, hql, h2, fun m hm => ⟨(h3 m hm).1, ?_⟩, fun j hj => ?_⟩
    · rw [show ((d.tick.setZ (base + k / d.size) ⟨(d.z (base + k / d.size)).rows ++ [p], (d.z (base + k / d.size)).good⟩).puts base d.size (k + 1) r) = d'.puts base d'.size (k + 1) r from rfl, (h3 m hm).2]
      show ((d.tick.setZ _ _).z (base + m)).good = _
      rw [d.tick.z_set hb]
      by_cases e : base + m = base + k / d.size
      · rw [if_pos e, e]
      · rw [if_neg e]; rfl
    · show (Dv.puts d' base d'.size (k + 1) r).2.z j = _
      rw [h4 j hj]
      show (d.tick.setZ _ _).z j = _
      rw [d.tick.z_set hb, if_neg (by have h0 : base ≤ base + k / d.size := Nat.le_add_right _ _; omega)]; rfl

/-! ### A crash -/
theorem zone_crash {size : Nat} {z : Zn} (w : z.Wf size) (px tx : Option Int) : ∃ a t, (z.crash px tx).rows = z.rows.take a ++ t ∧ z.good ≤ a ∧ a ≤ z.rows.length ∧ (t = [] ∨ a < z.rows.length ∧ t = [tornL (z.rows.getD a [])]) := by
  refine ⟨z.keep px, z.tornT (z.keep px) tx, rfl, (Zn.keep_le w px).1, (Zn.keep_le w px).2, ?_⟩
  unfold Zn.tornT
  split
  · exact .inl rfl
  · split
    · rename_i h; exact .inr ⟨h.1, rfl⟩
    · exact .inl rfl
theorem part_length (size : Nat) (ps : List (List UInt8)) (m : Nat) : (part size ps m).length = min size (ps.length - m * size) := by
  unfold part; rw [List.length_take, List.length_drop]
theorem mem_drop_le {α : Type} {l : List α} {p : α} {a b : Nat} (h : p ∈ l.drop b) (hab : a ≤ b) : p ∈ l.drop a := by
  obtain ⟨c, rfl⟩ : ∃ c, b = a + c := ⟨b - a, by omega⟩
  rw [← List.drop_drop] at h
  exact List.mem_of_mem_drop h
/-- what zones keep of blocks: the first ones; behind one that is torn come others of them, or torn ones. -/
theorem crash_rows {size : Nat} {d' : Dv} {ps : List (List UInt8)} {cnt base g : Nat} (hs : 1 ≤ size) (hd : d'.size = size) (hl : ps.length ≤ cnt * size) (hg : g ≤ ps.length)
    (h : ∀ m, m < cnt → ∃ a t, (d'.z (base + m)).rows = (part size ps m).take a ++ t ∧ a ≤ (part size ps m).length ∧ (part size (ps.take g) m).length ≤ a ∧ (t = [] ∨ a < (part size ps m).length ∧ t = [tornL ((part size ps m).getD a [])])) :
    ∃ q r, zRows d' base cnt = ps.take q ++ r ∧ g ≤ q ∧ q + r.length ≤ ps.length ∧ (r = [] ∨ ∃ hq : q < ps.length, ∃ s, r = tornL ps[q] :: s) ∧ ∀ p ∈ r, p ∈ ps.drop q ∨ ∃ p' ∈ ps.drop q, p = tornL p' := by
  have go : ∀ k m, m + k = cnt → ∃ q r, zRows d' (base + m) k = (ps.drop (m * size)).take q ++ r ∧ g ≤ m * size + q ∧ q + r.length ≤ (ps.drop (m * size)).length ∧ (r = [] ∨ ∃ hq : m * size + q < ps.length, ∃ s, r = tornL ps[m * size + q] :: s) ∧ ∀ p ∈ r, p ∈ ps.drop (m * size + q) ∨ ∃ p' ∈ ps.drop (m * size + q), p = tornL p' := by
    intro k
    induction k with
    | zero =>
      intro m hm
      obtain rfl : m = cnt := by omega
      exact ⟨0, [], rfl, by omega, by simp, .inl rfl, fun p hp => by simp at hp⟩
    | succ k ih =>
      intro m hm
      obtain ⟨a, t, hr, ha, hga, ht⟩ := h m (by omega)
      rw [zRows, hr, hd]
      have hP := part_length size ps m
      have hG := part_length size (ps.take g) m
      rw [List.length_take, Nat.min_eq_left hg] at hG
      have hD : (ps.drop (m * size)).length = ps.length - m * size := List.length_drop
      have hms : (m + 1) * size = m * size + size := by rw [Nat.add_mul, Nat.one_mul]
      obtain ⟨q', r', ih1, ih2, ih3, ih4, ih5⟩ := ih (m + 1) (by omega)
      rw [show base + m + 1 = base + (m + 1) by omega]
      rcases ht with rfl | ⟨hlt, rfl⟩
      · -- nothing torn
        rw [List.append_nil]
        have htl : ((part size ps m).take a).length = a := by rw [List.length_take]; omega
        have htk : (part size ps m).take a = (ps.drop (m * size)).take a := by
          unfold part; rw [List.take_take, Nat.min_eq_left (by omega)]
        rw [htl]
        by_cases hfull : a < size
        · rw [if_pos hfull, List.append_nil, htk]
          refine ⟨a, [], by rw [List.append_nil], by omega, by simp only [List.length_nil]; omega, .inl rfl, fun p hp => by simp at hp⟩
        · rw [if_neg hfull, htk, ih1, hms]
          rw [hms] at ih2 ih3 ih4
          rw [← List.drop_drop] at ih3 ⊢
          obtain rfl : a = size := by omega
          refine ⟨a + q', r', ?_, by omega, ?_, ?_, by rw [show m * a + (a + q') = m * a + a + q' by omega, ← hms]; exact ih5⟩
          · rw [← List.append_assoc, List.take_add]
          · rw [List.length_drop] at ih3; omega
          · rcases ih4 with h | ⟨hq, s, h⟩
            · exact .inl h
            · refine .inr ⟨by omega, s, ?_⟩
              rw [h]
              have : ∀ (x y : Nat) (hx : x < ps.length) (hy : y < ps.length), x = y → ps[x] = ps[y] := fun x y _ _ e => by subst e; rfl
              rw [this _ (m * a + (a + q')) hq (by omega) (by omega)]
      · -- one torn
        have htk : (part size ps m).take a = (ps.drop (m * size)).take a := by
          unfold part; rw [List.take_take, Nat.min_eq_left (by omega)]
        have hix : m * size + a < ps.length := by omega
        have hget : (part size ps m).getD a [] = ps[m * size + a] := by
          unfold part
          rw [List.getD_eq_getElem?_getD, List.getElem?_take_of_lt (by omega), List.getElem?_drop, List.getElem?_eq_getElem hix]; rfl
        rw [hget, htk, List.append_assoc]
        refine ⟨a, _, rfl, by omega, ?_, .inr ⟨hix, _, rfl⟩, fun p hp => ?_⟩
        · have htl : ((ps.drop (m * size)).take a).length = a := by rw [List.length_take]; omega
          rw [List.length_append, List.length_append, htl]
          simp only [List.length_cons, List.length_nil]
          split
          · simp only [List.length_nil]; omega
          · rw [hms, ← List.drop_drop, List.length_drop] at ih3
            have hq' : (((ps.drop ((m + 1) * size)).take q') ++ r').length ≤ q' + r'.length := by rw [List.length_append, List.length_take]; omega
            rw [ih1]; omega
        rcases List.mem_append.1 hp with hp | hp
        · simp only [List.mem_cons, List.not_mem_nil, or_false] at hp
          subst hp
          exact .inr ⟨_, by rw [List.drop_eq_getElem_cons hix]; exact List.mem_cons_self, rfl⟩
        · split at hp
          · simp at hp
          · rw [ih1] at hp
            rcases List.mem_append.1 hp with hp | hp
            · exact .inl (mem_drop_le (List.mem_of_mem_take hp) (by omega))
            · rcases ih5 p hp with h | ⟨p', h, e⟩
              · exact .inl (mem_drop_le h (by omega))
              · exact .inr ⟨p', mem_drop_le h (by omega), e⟩
  obtain ⟨q, r, h1, h2, h3, h4, h5⟩ := go cnt 0 (by omega)
  simp only [Nat.zero_mul, Nat.zero_add, List.drop_zero, Nat.add_zero] at h1 h2 h3 h4 h5
  exact ⟨q, r, h1, h2, h3, h4, h5⟩
/-- blocks that stand one behind the other, behind a crash; so many of them were for good. -/
theorem crash_part {d : Dv} (w : d.Wf) {ps : List (List UInt8)} {cnt base g : Nat} (hn : base + cnt ≤ d.n) (hl : ps.length ≤ cnt * d.size) (hg : g ≤ ps.length) (hz : ∀ m, m < cnt → (d.z (base + m)).rows = part d.size ps m ∧ (part d.size (ps.take g) m).length ≤ (d.z (base + m)).good) (picks torn : List Int) :
    ∃ q r, zRows (d.crash picks torn) base cnt = ps.take q ++ r ∧ g ≤ q ∧ q + r.length ≤ ps.length ∧ (r = [] ∨ ∃ hq : q < ps.length, ∃ s, r = tornL ps[q] :: s) ∧ ∀ p ∈ r, p ∈ ps.drop q ∨ ∃ p' ∈ ps.drop q, p = tornL p' := by
  have hs := w.size
  refine crash_rows (size := d.size) (by omega) rfl hl hg fun m hm => ?_
  rw [Dv.crash_z _ _ _ (by omega)]
  obtain ⟨a, t, h1, h2, h3, h4⟩ := zone_crash (w.zone (base + m)) (pickL picks (base + m)) (pickL torn (base + m))
  obtain ⟨hr, hg'⟩ := hz m hm
  rw [hr] at h1 h3 h4
  exact ⟨a, t, h1, h3, by omega, h4⟩
theorem crash_good {d : Dv} (w : d.Wf) (picks torn : List Int) : AllGood (d.crash picks torn) := by
  intro j
  by_cases hj : j < d.n
  · rw [Dv.crash_z _ _ _ hj]; rfl
  · have h2 : (d.crash picks torn).z j = ⟨[], 0⟩ := by unfold Dv.z; rw [List.getD_eq_getElem?_getD, List.getElem?_eq_none (by show (mkZ d.n _).length ≤ j; rw [mkZ_length]; omega)]; rfl
    rw [h2]; rfl
theorem crash_ok {d : Dv} (w : d.Wf) (picks torn : List Int) : OkD d (d.crash picks torn) := ⟨⟨rfl, rfl⟩, w.crash picks torn, rfl, rfl⟩
/-- a zone all of which is for good. -/
theorem crash_keep {d : Dv} (w : d.Wf) (picks torn : List Int) {j : Nat} (hg : (d.z j).good = (d.z j).rows.length) : ((d.crash picks torn).z j).rows = (d.z j).rows := by
  by_cases hj : j < d.n
  · rw [Dv.crash_z _ _ _ hj]
    obtain ⟨a, t, h1, h2, h3, h4⟩ := zone_crash (w.zone j) (pickL picks j) (pickL torn j)
    obtain rfl : a = (d.z j).rows.length := by omega
    rcases h4 with rfl | ⟨h4, _⟩
    · rw [h1, List.take_length, List.append_nil]
    · omega
  · have h1 : d.z j = ⟨[], 0⟩ := by unfold Dv.z; rw [List.getD_eq_getElem?_getD, List.getElem?_eq_none (by have := w.n; omega)]; rfl
    have h2 : (d.crash picks torn).z j = ⟨[], 0⟩ := by unfold Dv.z; rw [List.getD_eq_getElem?_getD, List.getElem?_eq_none (by show (mkZ d.n _).length ≤ j; rw [mkZ_length]; omega)]; rfl
    rw [h1, h2]
theorem AllGood.tick {d : Dv} (g : AllGood d) : AllGood d.tick := g
theorem torn_dK {p : List UInt8} (h : p.length = 64) : dK (tornL p) = dK p := by
  unfold dK tornL
  rw [List.getD_eq_getElem?_getD, List.getD_eq_getElem?_getD, List.getElem?_append_left (by rw [List.length_take]; omega), List.getElem?_take_of_lt (by omega)]

end Go.Proofs.Ytippdkokbhejmaa
