/-
  slot: what a device holds after a text is written; what is told of it.
-/
import Derived.Test.YtfelkonmhfejdaaSlot5
namespace Go.Proofs.Ytfelkonmhfejdaa
set_option linter.unusedVariables false
set_option linter.unusedSimpArgs false

structure OkD (d e : Dv) : Prop where
  live : Live e
  wf : e.Wf
  n : e.n = d.n
  size : e.size = d.size
theorem OkD.trans {a b c : Dv} (x : OkD a b) (y : OkD b c) : OkD a c := ⟨y.live, y.wf, y.n.trans x.n, y.size.trans x.size⟩
theorem clear_live : ∀ (k : Nat) (d : Dv) (z : Nat), Live d → d.Wf → z + k ≤ d.n → (d.clear z k).1 = 0 ∧ OkD d (d.clear z k).2 ∧ ∀ j, (d.clear z k).2.z j = if z ≤ j ∧ j < z + k then ⟨[], 0⟩ else d.z j := by
  intro k
  induction k with
  | zero => intro d z l w h; exact ⟨rfl, ⟨l, w, rfl, rfl⟩, fun j => by rw [if_neg (by omega)]; rfl⟩
  | succ k ih =>
    intro d z l w h
    have hzn : z < d.zs.length := by have := w.n; omega
    rw [Dv.clear]
    by_cases hz : (d.z z).rows.length = 0
    · rw [if_pos hz]
      obtain ⟨h1, h2, h3⟩ := ih d (z + 1) l w (by omega)
      refine ⟨h1, h2, fun j => ?_⟩
      rw [h3]
      by_cases hj : j = z
      · subst hj
        rw [if_neg (by omega), if_pos (by omega)]
        have hg := (w.zone j).good
        have hr : (d.z j).rows = [] := List.eq_nil_of_length_eq_zero hz
        cases hd : d.z j with
        | mk rows good => rw [hd] at hr hg; simp only at hr hg; subst hr; simp at hg; subst hg; rfl
      · by_cases hc : z + 1 ≤ j ∧ j < z + 1 + k
        · rw [if_pos hc, if_pos (by omega)]
        · rw [if_neg hc, if_neg (by omega)]
    · rw [if_neg hz, reset_live l (by omega)]
      rw [if_neg (by simp)]
      have w1 : (d.tick.setZ z ⟨[], 0⟩).Wf := w.tick.setZ z ⟨Nat.zero_le _, Nat.zero_le _, fun p hp => by simp at hp⟩
      obtain ⟨h1, h2, h3⟩ := ih (d.tick.setZ z ⟨[], 0⟩) (z + 1) (l.tick.setZ _ _) w1 (by show z + 1 + k ≤ d.n; omega)
      refine ⟨h1, OkD.trans ⟨l.tick.setZ _ _, w1, rfl, rfl⟩ h2, fun j => ?_⟩
      show (Dv.clear (d.tick.setZ z ⟨[], 0⟩) (z + 1) k).2.z j = _
      rw [h3, d.tick.z_set hzn]
      by_cases hj : j = z
      · subst hj; rw [if_neg (by omega), if_pos rfl, if_pos (by omega)]
      · rw [if_neg hj]
        by_cases hc : z + 1 ≤ j ∧ j < z + 1 + k
        · rw [if_pos hc, if_pos (by omega)]
        · rw [if_neg hc, if_neg (by omega)]; rfl
/-- the blocks of a zone of a row of zones. -/
def part (size : Nat) (ps : List (List UInt8)) (m : Nat) : List (List UInt8) := (ps.drop (m * size)).take size
theorem part_snoc {size : Nat} {ps : List (List UInt8)} {k : Nat} (hs : 1 ≤ size) (hk : k < ps.length) (m : Nat) : part size (ps.take (k + 1)) m = if m = k / size then part size (ps.take k) m ++ [ps[k]] else part size (ps.take k) m := by
  have hkl : (ps.take k).length = k := by simp; omega
  have hdm := Nat.div_add_mod k size
  have hmod := Nat.mod_lt k (show 0 < size by omega)
  have hcomm : size * (k / size) = (k / size) * size := Nat.mul_comm _ _
  rw [List.take_succ_eq_append_getElem hk]
  unfold part
  rcases Nat.lt_trichotomy m (k / size) with h | h | h
  · rw [if_neg (by omega)]
    have h1 : (m + 1) * size ≤ (k / size) * size := Nat.mul_le_mul_right _ (by omega)
    rw [Nat.add_mul, Nat.one_mul] at h1
    rw [List.drop_append_of_le_length (by omega), List.take_append_of_le_length (by rw [List.length_drop]; omega)]
  · rw [if_pos h]
    subst h
    rw [List.drop_append_of_le_length (by omega), List.take_append, List.take_of_length_le (l := (ps.take k).drop _) (by rw [List.length_drop]; omega)]
    congr 1
    rw [List.take_of_length_le (by simp [List.length_drop]; omega)]
  · rw [if_neg (by omega)]
    have h1 : (k / size + 1) * size ≤ m * size := Nat.mul_le_mul_right _ (by omega)
    rw [Nat.add_mul, Nat.one_mul] at h1
    rw [List.drop_of_length_le (by simp; omega), List.drop_of_length_le (by omega)]
theorem part_len {size : Nat} {ps : List (List UInt8)} {k : Nat} (hs : 1 ≤ size) (hk : k < ps.length) : (part size (ps.take k) (k / size)).length < size := by
  have hdm := Nat.div_add_mod k size
  have hmod := Nat.mod_lt k (show 0 < size by omega)
  have hcomm : size * (k / size) = (k / size) * size := Nat.mul_comm _ _
  unfold part
  rw [List.length_take, List.length_drop, List.length_take]
  omega
theorem puts_live {base cnt : Nat} {ps : List (List UInt8)} (h64 : ∀ p ∈ ps, p.length = 64) : ∀ (r : List (List UInt8)) (d : Dv) (k : Nat), Live d → d.Wf → base + cnt ≤ d.n → ps.length ≤ cnt * d.size → ps.drop k = r → k ≤ ps.length → (∀ m, m < cnt → (d.z (base + m)).rows = part d.size (ps.take k) m) →
    (d.puts base d.size k r).1 = 0 ∧ OkD d (d.puts base d.size k r).2 ∧ (∀ m, m < cnt → ((d.puts base d.size k r).2.z (base + m)).rows = part d.size ps m) ∧ ∀ j, (j < base ∨ base + cnt ≤ j) → (d.puts base d.size k r).2.z j = d.z j := by
  intro r
  induction r with
  | nil =>
    intro d k l w hn hc hr hk hz
    have hkl : k = ps.length := by have := congrArg List.length hr; simp at this; omega
    subst hkl
    rw [List.take_length] at hz
    exact ⟨rfl, ⟨l, w, rfl, rfl⟩, hz, fun j _ => rfl⟩
  | cons p r ih =>
    intro d k l w hn hc hr hk hz
    have hkl : k < ps.length := by have := congrArg List.length hr; simp at this; omega
    have hs := w.size
    have hpk : ps[k] = p := by
      have := List.drop_eq_getElem_cons hkl
      rw [hr] at this
      exact (List.cons.inj this).1.symm
    have hr' : ps.drop (k + 1) = r := by
      have := List.drop_eq_getElem_cons hkl
      rw [hr] at this
      exact (List.cons.inj this).2.symm
    have hq : k / d.size < cnt := by
      rw [Nat.div_lt_iff_lt_mul (by omega)]; omega
    have hzq := hz _ hq
    have hlt := part_len (size := d.size) (ps := ps) (k := k) (by omega) hkl
    have hb : base + k / d.size < d.zs.length := by have := w.n; omega
    have happ := append_live l (k := base + k / d.size) (by have := w.n; omega) (h64 p (by rw [← hpk]; exact List.getElem_mem hkl))
    rw [if_neg (by rw [hzq]; omega)] at happ
    rw [Dv.puts, happ, if_neg (by simp)]
    have hzw := w.zone (base + k / d.size)
    let d' := d.tick.setZ (base + k / d.size) ⟨(d.z (base + k / d.size)).rows ++ [p], (d.z (base + k / d.size)).good⟩
    have w' : d'.Wf := w.tick.setZ _ ⟨by rw [List.length_append, hzq]; simp; show _ ≤ d.size; omega, by have := hzw.good; simp; omega, fun y hy => by
      rcases List.mem_append.1 hy with hy | hy
      · exact hzw.each y hy
      · simp only [List.mem_cons, List.not_mem_nil, or_false] at hy
        subst hy; exact h64 y (by rw [← hpk]; exact List.getElem_mem hkl)⟩
    have hz' : ∀ m, m < cnt → (d'.z (base + m)).rows = part d'.size (ps.take (k + 1)) m := fun m hm => by
      show ((d.tick.setZ _ _).z (base + m)).rows = part d.size _ m
      rw [part_snoc (by omega) hkl, d.tick.z_set hb, hpk]
      by_cases e : m = k / d.size
      · subst e; rw [if_pos rfl, if_pos rfl, hzq]
      · rw [if_neg (by omega), if_neg e]; exact hz m hm
    obtain ⟨h1, h2, h3, h4⟩ := ih d' (k + 1) (l.tick.setZ _ _) w' hn hc hr' hkl hz'
    refine ⟨h1, OkD.trans ⟨l.tick.setZ _ _, w', rfl, rfl⟩ h2, h3, fun j hj => ?_⟩
    show (Dv.puts d' base d'.size (k + 1) r).2.z j = _
    rw [h4 j hj]
    show (d.tick.setZ _ _).z j = _
    rw [d.tick.z_set hb, if_neg (by have h0 : base ≤ base + k / d.size := Nat.le_add_right _ _; omega)]; rfl
theorem zRows_part {d : Dv} {base cnt : Nat} {ps : List (List UInt8)} (hs : 1 ≤ d.size) (hl : ps.length ≤ cnt * d.size) (hz : ∀ m, m < cnt → (d.z (base + m)).rows = part d.size ps m) : zRows d base cnt = ps := by
  have go : ∀ k m, m + k = cnt → zRows d (base + m) k = ps.drop (m * d.size) := by
    intro k
    induction k with
    | zero =>
      intro m hm
      obtain rfl : m = cnt := by omega
      rw [List.drop_of_length_le hl]; rfl
    | succ k ih =>
      intro m hm
      rw [zRows, hz m (by omega)]
      have hlen : (part d.size ps m).length = min d.size (ps.length - m * d.size) := by unfold part; simp
      split
      · rename_i hlt
        rw [List.append_nil]
        unfold part
        rw [List.take_of_length_le (by rw [List.length_drop]; omega)]
      · have := ih (m + 1) (by omega)
        rw [show base + m + 1 = base + (m + 1) by omega, this]
        unfold part
        rw [show (m + 1) * d.size = m * d.size + d.size by rw [Nat.add_mul, Nat.one_mul], ← List.drop_drop, List.take_append_drop]
  simpa using go cnt 0 (by omega)
/-- all that stands there is for good. -/
def AllGood (d : Dv) : Prop := ∀ j, (d.z j).good = (d.z j).rows.length
theorem wr_live {d : Dv} (l : Live d) (w : d.Wf) {lo hi n : Nat} {t : List UInt8} (h1 : lo ≤ hi) (h2 : hi ≤ d.n) (hfit : nCh t + 2 ≤ (hi - lo) * d.size) :
    (d.wr lo hi d.size n t).1 = 0 ∧ OkD d (d.wr lo hi d.size n t).2 ∧ zRows (d.wr lo hi d.size n t).2 lo (hi - lo) = encS n t ∧ (∀ j, (j < lo ∨ hi ≤ j) → ((d.wr lo hi d.size n t).2.z j).rows = (d.z j).rows) ∧ AllGood (d.wr lo hi d.size n t).2 := by
  obtain ⟨c1, c2, c3⟩ := clear_live (hi - lo) d lo l w (by omega)
  have hs := w.size
  have hd : (d.clear lo (hi - lo)).2.size = d.size := c2.size
  obtain ⟨p1, p2, p3, p4⟩ := puts_live (base := lo) (cnt := hi - lo) (ps := encS n t) enc_64 (encS n t) (d.clear lo (hi - lo)).2 0 c2.live c2.wf (by rw [c2.n]; omega) (by rw [encS_len, hd]; exact hfit) rfl (Nat.zero_le _) (fun m hm => by rw [c3, if_pos (by omega)]; simp [part])
  rw [hd] at p1 p2 p3 p4
  unfold Dv.wr
  rw [if_neg (by omega), if_neg (by omega), flush_live p2.live]
  have ok : OkD d ((d.clear lo (hi - lo)).2.puts lo d.size 0 (encS n t)).2.tick.flushed := OkD.trans c2 (OkD.trans p2 ⟨⟨p2.live.1, p2.live.dead⟩, p2.wf.tick.flushed, rfl, rfl⟩)
  refine ⟨rfl, ok, ?_, fun j hj => ?_, fun j => ?_⟩
  · refine zRows_part (by rw [ok.size]; omega) (by rw [encS_len, ok.size]; exact hfit) fun m hm => ?_
    rw [Dv.flushed_z, ok.size]
    exact p3 m hm
  · rw [Dv.flushed_z]
    show (((d.clear lo (hi - lo)).2.puts lo d.size 0 (encS n t)).2.z j).rows = _
    rw [p4 j (by omega), c3, if_neg (by omega)]
  · rw [Dv.flushed_z]

/-! ### What is told -/
structure SlInv (d : Dv) (f0 f1 f2 inn : Nat) (tx : List UInt8) (count : Nat) : Prop where
  odd0 : (zRows d f0 (f1 - f0)).any oddB = false
  odd1 : (zRows d f1 (f2 - f1)).any oddB = false
  le1 : inn ≤ 1
  here : 1 ≤ count → readS (if inn = 0 then zRows d f0 (f1 - f0) else zRows d f1 (f2 - f1)) = (tx, count)
  there : 1 ≤ count → (readS (if inn = 0 then zRows d f1 (f2 - f1) else zRows d f0 (f1 - f0))).2 < count
  none : count = 0 → inn = 1 ∧ tx = [] ∧ (readS (zRows d f0 (f1 - f0))).2 = 0 ∧ (readS (zRows d f1 (f2 - f1))).2 = 0
theorem SlInv.pick {d : Dv} {f0 f1 f2 inn count : Nat} {tx : List UInt8} (v : SlInv d f0 f1 f2 inn tx count) : pickS (zRows d f0 (f1 - f0)) (zRows d f1 (f2 - f1)) = (inn, (tx, count)) := by
  have hi := v.le1
  unfold pickS
  rcases Nat.eq_zero_or_pos count with h0 | h0
  · obtain ⟨rfl, rfl, h1, h2⟩ := v.none h0
    subst h0
    have hp : pick1 0 (readS (zRows d f0 (f1 - f0))) (1, ([], 0)) = (1, ([], 0)) := by unfold pick1; rw [if_neg (by simp only; omega)]
    rw [hp]
    unfold pick1; rw [if_neg (by simp only; omega)]
  · have hh := v.here h0
    have ht := v.there h0
    rcases (show inn = 0 ∨ inn = 1 by omega) with rfl | rfl
    · rw [if_pos rfl] at hh ht
      have hp : pick1 0 (readS (zRows d f0 (f1 - f0))) (1, ([], 0)) = (0, (tx, count)) := by unfold pick1; rw [hh, if_pos (by simp only; omega)]
      rw [hp]
      unfold pick1; rw [if_neg (by simp only; omega)]
    · rw [if_neg (by omega)] at hh ht
      have hp : (pick1 0 (readS (zRows d f0 (f1 - f0))) (1, ([], 0))).2.2 < count := by
        unfold pick1
        split
        · exact ht
        · exact h0
      generalize pick1 0 (readS (zRows d f0 (f1 - f0))) (1, ([], 0)) = p at hp
      rw [hh]
      unfold pick1
      exact if_pos hp
/-- another device that holds the same. -/
theorem SlInv.same {d d' : Dv} {f0 f1 f2 inn count : Nat} {tx : List UInt8} (v : SlInv d f0 f1 f2 inn tx count) (hs : d'.size = d.size) (hr : ∀ j, f0 ≤ j → j < f2 → (d'.z j).rows = (d.z j).rows) (h01 : f0 ≤ f1) (h12 : f1 ≤ f2) : SlInv d' f0 f1 f2 inn tx count := by
  have e0 : zRows d' f0 (f1 - f0) = zRows d f0 (f1 - f0) := zRows_congr hs _ _ fun j h1 h2 => hr j h1 (by omega)
  have e1 : zRows d' f1 (f2 - f1) = zRows d f1 (f2 - f1) := zRows_congr hs _ _ fun j h1 h2 => hr j (by omega) (by omega)
  obtain ⟨a, b, c, d1, e, f⟩ := v
  exact ⟨by rw [e0]; exact a, by rw [e1]; exact b, c, by rw [e0, e1]; exact d1, by rw [e0, e1]; exact e, by rw [e0, e1]; exact f⟩
theorem readS_nil : readS [] = ([], 0) := rfl
theorem zRows_nil {d : Dv} (k z : Nat) (h : ∀ j, z ≤ j → j < z + k → (d.z j).rows = []) : zRows d z k = [] := by
  induction k generalizing z with
  | zero => rfl
  | succ k ih => simp only [zRows]; rw [h z (by omega) (by omega), ih (z + 1) fun j h1 h2 => h j (by omega) (by omega)]; simp
theorem SlInv.new {d : Dv} {f0 f1 f2 : Nat} (h : ∀ j, f0 ≤ j → j < f2 → (d.z j).rows = []) (h01 : f0 ≤ f1) (h12 : f1 ≤ f2) : SlInv d f0 f1 f2 1 [] 0 := by
  have e0 : zRows d f0 (f1 - f0) = [] := zRows_nil _ _ fun j h1 h2 => h j h1 (by omega)
  have e1 : zRows d f1 (f2 - f1) = [] := zRows_nil _ _ fun j h1 h2 => h j (by omega) (by omega)
  exact ⟨by rw [e0]; rfl, by rw [e1]; rfl, by omega, fun h => by omega, fun h => by omega, fun _ => ⟨rfl, rfl, by rw [e0]; rfl, by rw [e1]; rfl⟩⟩
/-- a text is written where the older one stood. -/
theorem SlInv.wrote {d d' : Dv} {f0 f1 f2 inn count : Nat} {tx t : List UInt8} (v : SlInv d f0 f1 f2 inn tx count) (h01 : f0 ≤ f1) (h12 : f1 ≤ f2) (hs : d'.size = d.size) (hc : count + 1 ≤ 1099511627776) (ht : t.length ≤ 1000000)
    (hw : zRows d' (if inn = 0 then f1 else f0) (if inn = 0 then f2 - f1 else f1 - f0) = encS (count + 1) t) (ho : ∀ j, f0 ≤ j → j < f2 → ¬ ((if inn = 0 then f1 else f0) ≤ j ∧ j < (if inn = 0 then f2 else f1)) → (d'.z j).rows = (d.z j).rows) :
    SlInv d' f0 f1 f2 (1 - inn) t (count + 1) := by
  have hi := v.le1
  have hodd : (encS (count + 1) t).any oddB = false := by
    rw [List.any_eq_false]
    intro p hp; rw [enc_odd hc ht p hp]; simp
  rcases (show inn = 0 ∨ inn = 1 by omega) with rfl | rfl
  · rw [if_pos rfl, if_pos rfl] at hw
    have e0 : zRows d' f0 (f1 - f0) = zRows d f0 (f1 - f0) := zRows_congr hs _ _ fun j h1 h2 => ho j h1 (by omega) (by simp; omega)
    refine ⟨by rw [e0]; exact v.odd0, by rw [hw]; exact hodd, by omega, fun _ => ?_, fun _ => ?_, fun h => by omega⟩
    · rw [if_neg (by omega), hw]; exact readS_enc hc ht
    · rw [if_neg (by omega), e0]
      rcases Nat.eq_zero_or_pos count with h0 | h0
      · have := (v.none h0).1; omega
      · have := v.here h0; rw [if_pos rfl] at this; rw [this]; simp only; omega
  · rw [if_neg (by omega), if_neg (by omega)] at hw
    have e1 : zRows d' f1 (f2 - f1) = zRows d f1 (f2 - f1) := zRows_congr hs _ _ fun j h1 h2 => ho j (by omega) (by omega) (by simp; omega)
    refine ⟨by rw [hw]; exact hodd, by rw [e1]; exact v.odd1, by omega, fun _ => ?_, fun _ => ?_, fun h => by omega⟩
    · rw [if_pos (by omega), hw]; exact readS_enc hc ht
    · rw [if_pos (by omega), e1]
      rcases Nat.eq_zero_or_pos count with h0 | h0
      · have := (v.none h0).2.2.2; omega
      · have := v.here h0; rw [if_neg (by omega)] at this; rw [this]; simp only; omega

end Go.Proofs.Ytfelkonmhfejdaa
