/-
  What stands in zones, one behind the other; zones that are emptied, and written.
-/
import Derived.Test.YtippdkokbhejmaaDevL
import Derived.Test.YtippdkokbhejmaaFrame3
import Derived.Test.YtippdkokbhejmaaPlain8
namespace Go.Proofs.Ytippdkokbhejmaa
set_option linter.unusedVariables false
set_option linter.unusedSimpArgs false

/-- one row more, which stands in a block of the call's. -/
theorem OwnRows.pushG {lo e ty by_ : Nat} {h : Hp} {t u : Sl} {rows : List (Sl × List UInt8)} {l : List UInt8} {zc : Array Value} {K : Sl → Hp → Prop} (hz : zc.size = 1) (o : OwnRows lo h t rows) (hlo : lo ≤ h.size) (ru : Rd 1 h u (l.map bv))
    (bu : ∀ a, u.base = some a → lo ≤ a.block ∧ a.block < h.size ∧ ∀ a', t.base = some a' → a.block ≠ a'.block)
    (hb : (rows.length + 1) * by_ ≤ 140737488355328) (hby : 1 ≤ by_) (hK : ∀ r h', OwnRows lo h' r (rows ++ [(u, l)]) → r.len = rows.length + 1 → Keep lo h h' → (∀ b, b < h.size → (∀ a, t.base = some a → b ≠ a.block) → h'[b]? = h[b]?) → K r h') :
    AppC e 1 by_ zc t (Sl.mk (some (nw h)) 1 1) (alc h [slV u] ty) K := by
  have hlen := o.len
  have hle : (rows.length + 1) * 1 ≤ (rows.length + 1) * by_ := Nat.mul_le_mul_left _ hby
  refine AppC_own5 (news := [slV u]) (l := rows.map fun p => slV p.1) hz (o.own.ext (alc_ext h _ ty)) (by rw [size_alc]; omega) rfl (RdC.alc h _ ty) (fun v hv => by simp at hv; subst hv; rfl) (by rw [hlen]; simpa using hb) (by rw [hlen]; simp only; omega) fun r h' o' l' k' x' b' => ?_
  have s2 : (alc h [slV u] ty).size = h.size + 1 := size_alc _ _ _
  have same : ∀ b, b < h.size → (∀ a, t.base = some a → b ≠ a.block) → h'[b]? = h[b]? := fun b hb hne => by rw [x' b (by omega) hne, alc_old _ _ _ hb]
  have kp : Keep lo h h' := ⟨by have := k'.size; omega, fun b hb => by rw [k'.block b hb, alc_old _ _ _ (by omega)]⟩
  have hsz := kp.size
  have hrb : ∀ a', r.base = some a' → t.base = some a' ∨ h.size ≤ a'.block := fun a' ha' => by
    rcases b' a' ha' with h | h
    · exact .inl h
    · exact .inr (by omega)
  refine hK r h' ⟨by simpa using o', fun p hp => ?_, fun p hp a ha => ?_⟩ (by rw [l', hlen]) kp same
  · rcases List.mem_append.1 hp with hp | hp
    · exact (o.each p hp).eq fun a ha => same _ (o.base p hp a ha).2.1 (o.base p hp a ha).2.2
    · simp only [List.mem_cons, List.not_mem_nil, or_false] at hp
      subst hp
      exact ru.eq fun a ha => same _ (bu a ha).2.1 (bu a ha).2.2
  · have q : lo ≤ a.block ∧ a.block < h.size ∧ ∀ a', t.base = some a' → a.block ≠ a'.block := by
      rcases List.mem_append.1 hp with hp | hp
      · exact o.base p hp a ha
      · simp only [List.mem_cons, List.not_mem_nil, or_false] at hp
        subst hp; exact bu a ha
    refine ⟨q.1, by omega, fun a' ha' => ?_⟩
    rcases hrb a' ha' with h | h
    · exact q.2.2 a' h
    · omega
/-- a row through what a device does. -/
theorem Row.chg {F : Nat → Nat} {h h' : Hp} {b : Nat} {l : List Value} (r : Row h b l) (c : Chg F h h') (hF : F b = 0) : Row h' b l := r.eq (c.block b r.lt hF)
theorem Chg.tr {F : Nat → Nat} {a b c : Hp} (x : Chg F a b) (y : Chg F b c) : Chg F a c := x.trans (fun _ _ => rfl) y
theorem DevTo.trans {lo : Nat} {F F' : Nat → Nat} {h h1 h2 : Hp} {db : Nat} {d2 : Dv} (g : ∀ b, b < h.size → F' b = F b) (c : Chg F h h1) (t : DevTo lo F' h1 h2 db d2) : DevTo lo F h h2 db d2 := by
  obtain ⟨F2, x2, g2, c2⟩ := t
  exact ⟨F2, x2, fun b hb => by rw [g2 b (Nat.lt_of_lt_of_le hb c.size), g b hb], c.trans g c2⟩
theorem DevTo.ext {lo : Nat} {F : Nat → Nat} {h h1 h2 : Hp} {db : Nat} {d : Dv} (t : DevTo lo F h h1 db d) (e : Ext h1 h2) : DevTo lo F h h2 db d := by
  obtain ⟨F1, x1, g1, c1⟩ := t
  exact ⟨F1, x1.ext e, g1, c1.trans g1 (e.chg F1)⟩
theorem DevTo.refl {lo : Nat} {F : Nat → Nat} {h : Hp} {db : Nat} {d : Dv} (x : DevAt lo F h db d) : DevTo lo F h h db d := ⟨F, x, fun _ _ => rfl, .refl _ _⟩
def goodB (p : List UInt8) : Prop := p.length = 64 ∧ goodP p
/-- what stands in zones, up to the first that is not full. -/
def zRows (d : Dv) : Nat → Nat → List (List UInt8)
  | _, 0 => []
  | z, k + 1 => (d.z z).rows ++ if (d.z z).rows.length < d.size then [] else zRows d (z + 1) k
theorem zRows_len {d : Dv} (w : d.Wf) (z k : Nat) : (zRows d z k).length ≤ k * 192 := by
  induction k generalizing z with
  | zero => simp [zRows]
  | succ k ih =>
    have h1 := (w.zone z).rows
    have h2 := w.size
    have h3 := ih (z + 1)
    simp only [zRows]
    split
    · simp; omega
    · simp; omega
def withReads (d : Dv) (q : Int) : Dv := { d with reads := q }
theorem Dv.Wf.reads {d : Dv} (w : d.Wf) (q : Int) : (withReads d q).Wf := ⟨w.n, w.zones, w.size, w.left, w.each⟩
theorem zRows_reads (d : Dv) (q : Int) (z k : Nat) : zRows (withReads d q) z k = zRows d z k := by
  induction k generalizing z with
  | zero => rfl
  | succ k ih => simp only [zRows]; rw [ih]; rfl
theorem zRows_congr {d d' : Dv} (hs : d'.size = d.size) (k z : Nat) (h : ∀ j, z ≤ j → j < z + k → (d'.z j).rows = (d.z j).rows) : zRows d' z k = zRows d z k := by
  induction k generalizing z with
  | zero => rfl
  | succ k ih => simp only [zRows]; rw [h z (by omega) (by omega), hs, ih (z + 1) fun j h1 h2 => h j (by omega) (by omega)]
theorem zRows_nil {d : Dv} (k z : Nat) (h : ∀ j, z ≤ j → j < z + k → (d.z j).rows = []) : zRows d z k = [] := by
  induction k generalizing z with
  | zero => rfl
  | succ k ih => simp only [zRows]; rw [h z (by omega) (by omega), ih (z + 1) fun j h1 h2 => h j (by omega) (by omega)]; simp
theorem DevAt.low {lo lo' : Nat} {F : Nat → Nat} {h : Hp} {db : Nat} {d : Dv} (x : DevAt lo F h db d) (hl : lo' ≤ lo) : DevAt lo' F h db d := by
  obtain ⟨w, zs, zb, x⟩ := x
  exact ⟨w, zs, zb, fun b hb => ⟨Nat.le_trans hl (x.dom b hb).1, (x.dom b hb).2⟩, x.role, x.row, x.own, x.arr, x.len, x.zone⟩
theorem DevAt.free {lo : Nat} {F : Nat → Nat} {h : Hp} {db : Nat} {d : Dv} (x : DevAt lo F h db d) {b : Nat} (hb : h.size ≤ b) : F b = 0 := by
  rcases Nat.eq_zero_or_pos (F b) with h0 | h0
  · exact h0
  · have := (x.dom b (by omega)).2; omega
structure OkD (d e : Dv) : Prop where
  live : Live e
  wf : e.Wf
  n : e.n = d.n
  size : e.size = d.size
theorem OkD.trans {a b c : Dv} (x : OkD a b) (y : OkD b c) : OkD a c := ⟨y.live, y.wf, y.n.trans x.n, y.size.trans x.size⟩
noncomputable def Dv.clear (d : Dv) : Nat → Nat → Int × Dv
  | _, 0 => (0, d)
  | z, k + 1 => if (d.z z).rows.length = 0 then Dv.clear d (z + 1) k else if (d.reset z).1 ≠ 0 then d.reset z else Dv.clear (d.reset z).2 (z + 1) k
noncomputable def Dv.puts (d : Dv) (base size : Nat) : Nat → List (List UInt8) → Int × Dv
  | _, [] => (0, d)
  | k, p :: r => if (d.append ((base + k / size : Nat) : Int) p).1.2 ≠ 0 then ((d.append ((base + k / size : Nat) : Int) p).1.2, (d.append ((base + k / size : Nat) : Int) p).2) else Dv.puts (d.append ((base + k / size : Nat) : Int) p).2 base size (k + 1) r
theorem reset_n (d : Dv) (i : Int) : (d.reset i).2.n = d.n := by
  unfold Dv.reset; split
  · rfl
  · split <;> rfl
theorem clear_live : ∀ (k : Nat) (d : Dv) (z : Nat), Live d → d.Wf → z + k ≤ d.n → (d.clear z k).1 = 0 ∧ OkD d (d.clear z k).2 ∧ ∀ j, (d.clear z k).2.z j = if z ≤ j ∧ j < z + k then ⟨[], 0⟩ else d.z j := by
  intro k
  induction k with
  | zero => intro d z l w h; exact ⟨rfl, ⟨l, w, rfl, rfl⟩, fun j => by rw [if_neg (by omega)]; rfl⟩
  | succ k ih =>
    intro d z l w h
    have hzn : z < d.zs.length := by have := w.n; omega
    rw [Dv.clear]
    by_cases hz : (d.z z).rows.length = 0
    · rw [if_pos hz]
      obtain ⟨h1, h2, h3⟩ := ih d (z + 1) l w (by omega)
      refine ⟨h1, h2, fun j => ?_⟩
      rw [h3]
      by_cases hj : j = z
      · subst hj
        rw [if_neg (by omega), if_pos (by omega)]
        have hg := (w.zone j).good
        have hr : (d.z j).rows = [] := List.eq_nil_of_length_eq_zero hz
        cases hd : d.z j with
        | mk rows good => rw [hd] at hr hg; simp only at hr hg; subst hr; simp at hg; subst hg; rfl
      · by_cases hc : z + 1 ≤ j ∧ j < z + 1 + k
        · rw [if_pos hc, if_pos (by omega)]
        · rw [if_neg hc, if_neg (by omega)]
    · rw [if_neg hz, reset_live l (by omega)]
      rw [if_neg (by simp)]
      have w1 : (d.tick.setZ z ⟨[], 0⟩).Wf := w.tick.setZ z ⟨Nat.zero_le _, Nat.zero_le _, fun p hp => by simp at hp⟩
      obtain ⟨h1, h2, h3⟩ := ih (d.tick.setZ z ⟨[], 0⟩) (z + 1) (l.tick.setZ _ _) w1 (by show z + 1 + k ≤ d.n; omega)
      refine ⟨h1, OkD.trans ⟨l.tick.setZ _ _, w1, rfl, rfl⟩ h2, fun j => ?_⟩
      show (Dv.clear (d.tick.setZ z ⟨[], 0⟩) (z + 1) k).2.z j = _
      rw [h3, d.tick.z_set hzn]
      by_cases hj : j = z
      · subst hj; rw [if_neg (by omega), if_pos rfl, if_pos (by omega)]
      · rw [if_neg hj]
        by_cases hc : z + 1 ≤ j ∧ j < z + 1 + k
        · rw [if_pos hc, if_pos (by omega)]
        · rw [if_neg hc, if_neg (by omega)]; rfl
/-- the blocks of a zone of a row of zones. -/
def part (size : Nat) (ps : List (List UInt8)) (m : Nat) : List (List UInt8) := (ps.drop (m * size)).take size
theorem part_snoc {size : Nat} {ps : List (List UInt8)} {k : Nat} (hs : 1 ≤ size) (hk : k < ps.length) (m : Nat) : part size (ps.take (k + 1)) m = if m = k / size then part size (ps.take k) m ++ [ps[k]] else part size (ps.take k) m := by
  have hkl : (ps.take k).length = k := by simp; omega
  have hdm := Nat.div_add_mod k size
  have hmod := Nat.mod_lt k (show 0 < size by omega)
  have hcomm : size * (k / size) = (k / size) * size := Nat.mul_comm _ _
  rw [List.take_succ_eq_append_getElem hk]
  unfold part
  rcases Nat.lt_trichotomy m (k / size) with h | h | h
  · rw [if_neg (by omega)]
    have h1 : (m + 1) * size ≤ (k / size) * size := Nat.mul_le_mul_right _ (by omega)
    rw [Nat.add_mul, Nat.one_mul] at h1
    rw [List.drop_append_of_le_length (by omega), List.take_append_of_le_length (by rw [List.length_drop]; omega)]
  · rw [if_pos h]
    subst h
    rw [List.drop_append_of_le_length (by omega), List.take_append, List.take_of_length_le (l := (ps.take k).drop _) (by rw [List.length_drop]; omega)]
    congr 1
    rw [List.take_of_length_le (by simp [List.length_drop]; omega)]
  · rw [if_neg (by omega)]
    have h1 : (k / size + 1) * size ≤ m * size := Nat.mul_le_mul_right _ (by omega)
    rw [Nat.add_mul, Nat.one_mul] at h1
    rw [List.drop_of_length_le (by simp; omega), List.drop_of_length_le (by omega)]
theorem part_len {size : Nat} {ps : List (List UInt8)} {k : Nat} (hs : 1 ≤ size) (hk : k < ps.length) : (part size (ps.take k) (k / size)).length < size := by
  have hdm := Nat.div_add_mod k size
  have hmod := Nat.mod_lt k (show 0 < size by omega)
  have hcomm : size * (k / size) = (k / size) * size := Nat.mul_comm _ _
  unfold part
  rw [List.length_take, List.length_drop, List.length_take]
  omega
theorem puts_live {base cnt : Nat} {ps : List (List UInt8)} (h64 : ∀ p ∈ ps, p.length = 64) : ∀ (r : List (List UInt8)) (d : Dv) (k : Nat), Live d → d.Wf → base + cnt ≤ d.n → ps.length ≤ cnt * d.size → ps.drop k = r → k ≤ ps.length → (∀ m, m < cnt → (d.z (base + m)).rows = part d.size (ps.take k) m) →
    (d.puts base d.size k r).1 = 0 ∧ OkD d (d.puts base d.size k r).2 ∧ (∀ m, m < cnt → ((d.puts base d.size k r).2.z (base + m)).rows = part d.size ps m) ∧ ∀ j, (j < base ∨ base + cnt ≤ j) → (d.puts base d.size k r).2.z j = d.z j := by
  intro r
  induction r with
  | nil =>
    intro d k l w hn hc hr hk hz
    have hkl : k = ps.length := by have := congrArg List.length hr; simp at this; omega
    subst hkl
    rw [List.take_length] at hz
    exact ⟨rfl, ⟨l, w, rfl, rfl⟩, hz, fun j _ => rfl⟩
  | cons p r ih =>
    intro d k l w hn hc hr hk hz
    have hkl : k < ps.length := by have := congrArg List.length hr; simp at this; omega
    have hs := w.size
    have hpk : ps[k] = p := by
      have := List.drop_eq_getElem_cons hkl
      rw [hr] at this
      exact (List.cons.inj this).1.symm
    have hr' : ps.drop (k + 1) = r := by
      have := List.drop_eq_getElem_cons hkl
      rw [hr] at this
      exact (List.cons.inj this).2.symm
    have hq : k / d.size < cnt := by
      rw [Nat.div_lt_iff_lt_mul (by omega)]; omega
    have hzq := hz _ hq
    have hlt := part_len (size := d.size) (ps := ps) (k := k) (by omega) hkl
    have hb : base + k / d.size < d.zs.length := by have := w.n; omega
    have happ := append_live l (k := base + k / d.size) (by have := w.n; omega) (h64 p (by rw [← hpk]; exact List.getElem_mem hkl))
    rw [if_neg (by rw [hzq]; omega)] at happ
    rw [Dv.puts, happ, if_neg (by simp)]
    have hzw := w.zone (base + k / d.size)
    let d' := d.tick.setZ (base + k / d.size) ⟨(d.z (base + k / d.size)).rows ++ [p], (d.z (base + k / d.size)).good⟩
    have w' : d'.Wf := w.tick.setZ _ ⟨by rw [List.length_append, hzq]; simp; show _ ≤ d.size; omega, by have := hzw.good; simp; omega, fun y hy => by
      rcases List.mem_append.1 hy with hy | hy
      · exact hzw.each y hy
      · simp only [List.mem_cons, List.not_mem_nil, or_false] at hy
        subst hy; exact h64 y (by rw [← hpk]; exact List.getElem_mem hkl)⟩
    have hz' : ∀ m, m < cnt → (d'.z (base + m)).rows = part d'.size (ps.take (k + 1)) m := fun m hm => by
      show ((d.tick.setZ _ _).z (base + m)).rows = part d.size _ m
      rw [part_snoc (by omega) hkl, d.tick.z_set hb, hpk]
      by_cases e : m = k / d.size
      · subst e; rw [if_pos rfl, if_pos rfl, hzq]
      · rw [if_neg (by omega), if_neg e]; exact hz m hm
    obtain ⟨h1, h2, h3, h4⟩ := ih d' (k + 1) (l.tick.setZ _ _) w' hn hc hr' hkl hz'
    refine ⟨h1, OkD.trans ⟨l.tick.setZ _ _, w', rfl, rfl⟩ h2, h3, fun j hj => ?_⟩
    show (Dv.puts d' base d'.size (k + 1) r).2.z j = _
    rw [h4 j hj]
    show (d.tick.setZ _ _).z j = _
    rw [d.tick.z_set hb, if_neg (by have h0 : base ≤ base + k / d.size := Nat.le_add_right _ _; omega)]; rfl
theorem zRows_part {d : Dv} {base cnt : Nat} {ps : List (List UInt8)} (hs : 1 ≤ d.size) (hl : ps.length ≤ cnt * d.size) (hz : ∀ m, m < cnt → (d.z (base + m)).rows = part d.size ps m) : zRows d base cnt = ps := by
  have go : ∀ k m, m + k = cnt → zRows d (base + m) k = ps.drop (m * d.size) := by
    intro k
    induction k with
    | zero =>
      intro m hm
      obtain rfl : m = cnt := by omega
      rw [List.drop_of_length_le hl]; rfl
    | succ k ih =>
      intro m hm
      rw [zRows, hz m (by omega)]
      have hlen : (part d.size ps m).length = min d.size (ps.length - m * d.size) := by unfold part; simp
      split
      · rename_i hlt
        rw [List.append_nil]
        unfold part
        rw [List.take_of_length_le (by rw [List.length_drop]; omega)]
      · have := ih (m + 1) (by omega)
        rw [show base + m + 1 = base + (m + 1) by omega, this]
        unfold part
        rw [show (m + 1) * d.size = m * d.size + d.size by rw [Nat.add_mul, Nat.one_mul], ← List.drop_drop, List.take_append_drop]
  simpa using go cnt 0 (by omega)
/-- all that stands there is for good. -/
def AllGood (d : Dv) : Prop := ∀ j, (d.z j).good = (d.z j).rows.length
/-- the rows of zones are the same. -/
structure SameR (d d' : Dv) : Prop where
  ok : OkD d d'
  rows : ∀ j, (d'.z j).rows = (d.z j).rows
theorem SameR.reads {d : Dv} (l : Live d) (w : d.Wf) (q : Int) : SameR d (withReads d q) := ⟨⟨l, w.reads q, rfl, rfl⟩, fun _ => rfl⟩
/-- a crash leaves what is for good. -/
theorem crash_same {d : Dv} (l : Live d) (w : d.Wf) (g : AllGood d) (picks torn : List Int) : SameR d (d.crash picks torn) ∧ AllGood (d.crash picks torn) := by
  have hz : ∀ j, (d.crash picks torn).z j = d.z j := by
    intro j
    by_cases hj : j < d.n
    · rw [Dv.crash_z _ _ _ hj]
      have hg := g j
      unfold Zn.crash
      have hk := Zn.keep_le (w.zone j) (pickL picks j)
      have hk2 : (d.z j).keep (pickL picks j) = (d.z j).rows.length := by omega
      have ht : (d.z j).tornT (d.z j).rows.length (pickL torn j) = [] := by
        unfold Zn.tornT
        split
        · rfl
        · rw [if_neg (by omega)]
      rw [hk2, ht, List.take_length, List.append_nil]
      cases hd : d.z j with
      | mk rows good => rw [hd] at hg; simp only at hg; subst hg; rfl
    · have h1 : d.z j = ⟨[], 0⟩ := by unfold Dv.z; rw [List.getD_eq_getElem?_getD, List.getElem?_eq_none (by have := w.n; omega)]; rfl
      have h2 : (d.crash picks torn).z j = ⟨[], 0⟩ := by unfold Dv.z; rw [List.getD_eq_getElem?_getD, List.getElem?_eq_none (by show (mkZ d.n _).length ≤ j; rw [mkZ_length]; omega)]; rfl
      rw [h1, h2]
  exact ⟨⟨⟨⟨rfl, rfl⟩, w.crash picks torn, rfl, rfl⟩, fun j => by rw [hz]⟩, fun j => by rw [hz]; exact g j⟩

end Go.Proofs.Ytippdkokbhejmaa
