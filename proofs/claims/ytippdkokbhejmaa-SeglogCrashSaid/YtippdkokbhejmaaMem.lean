/-
  Memory: blocks, rows of cells that are read, rows that the call owns; appending.
-/
import Derived.Test.YtippdkokbhejmaaNum
namespace Go.Proofs.Ytippdkokbhejmaa
set_option linter.unusedVariables false
set_option linter.unusedSimpArgs false

theorem IfB.intro {b : Bool} {A B : Prop} (h1 : b = true → A) (h2 : b = false → B) : IfB b A B := ⟨h1, h2⟩
theorem IfB.dec {p : Prop} [Decidable p] {A B : Prop} (h1 : p → A) (h2 : ¬ p → B) : IfB (decide p) A B := ⟨fun h => h1 (of_decide_eq_true h), fun h => h2 (of_decide_eq_false h)⟩
theorem IfB.eq {x y : Int} {A B : Prop} (h1 : x = y → A) (h2 : x ≠ y → B) : IfB (x == y) A B := ⟨fun h => h1 (eq_of_beq h), fun h => h2 (by simpa using h)⟩
theorem IfB.ne {x y : Int} {A B : Prop} (h1 : x ≠ y → A) (h2 : x = y → B) : IfB (x != y) A B := ⟨fun h => h1 (by simpa using h), fun h => h2 (by simpa using h)⟩
theorem IfB.nilp {α : Type} {p : Option α} {A B : Prop} (h1 : p = none → A) (h2 : ∀ a, p = some a → B) : IfB (isNone? p) A B := by
  cases p with
  | none => exact ⟨fun _ => h1 rfl, fun h => by cases h⟩
  | some a => exact ⟨fun h => (by cases h), fun _ => h2 a rfl⟩
theorem IfB.nilp' {α : Type} {p : Option α} {A B : Prop} (h1 : ∀ a, p = some a → A) (h2 : p = none → B) : IfB (!isNone? p) A B := by
  cases p with
  | none => exact ⟨fun h => (by cases h), fun _ => h2 rfl⟩
  | some a => exact ⟨fun _ => h1 a rfl, fun h => by cases h⟩
theorem IfB.tt {A B : Prop} (h : A) : IfB true A B := ⟨fun _ => h, fun h => by cases h⟩
theorem IfB.ff {A B : Prop} (h : B) : IfB false A B := ⟨fun h => (by cases h), fun _ => h⟩
theorem IfB.not {b : Bool} {A B : Prop} (h : IfB b B A) : IfB (!b) A B := ⟨fun e => h.2 (by simpa using e), fun e => h.1 (by simpa using e)⟩
/-- where a test is known. -/
theorem IfB.yes {b : Bool} {A B : Prop} (e : b = true) (h : A) : IfB b A B := by subst e; exact .tt h
theorem IfB.no {b : Bool} {A B : Prop} (e : b = false) (h : B) : IfB b A B := by subst e; exact .ff h

/-! ### Blocks -/
theorem size_alc (h : Hp) (c : List Value) (t : Nat) : (alc h c t).size = h.size + 1 := by simp [alc]
theorem alc_new (h : Hp) (c : List Value) (t : Nat) : (alc h c t)[h.size]? = some (.cells c.toArray t (0, 0)) := by simp [alc]
theorem alc_old (h : Hp) (c : List Value) (t : Nat) {b : Nat} (hb : b < h.size) : (alc h c t)[b]? = h[b]? := by simp [alc, Array.getElem?_push, Nat.ne_of_lt hb]
theorem alc_ext (h : Hp) (c : List Value) (t : Nat) : Ext h (alc h c t) := Ext.push _ _
theorem hcell_blk {h : Hp} {b : Nat} {c : Array Value} {e : Nat} {f : Nat × Nat} (hb : h[b]? = some (.cells c e f)) (o : Nat) : hcell h ⟨b, o, none⟩ = c[o]? := by
  simp [hcell, hw, World.cell?, hb]
theorem hcell_eq {h h' : Hp} {a : Addr} (e : h'[a.block]? = h[a.block]?) : hcell h' a = hcell h a := by simp [hcell, hw, World.cell?, e]
theorem hfroz_eq {h h' : Hp} {a : Addr} (e : h'[a.block]? = h[a.block]?) : hfroz h' a = hfroz h a := by simp [hfroz, hw, World.frozen?, e]
theorem hfroz_blk {h : Hp} {b : Nat} {c : Array Value} {e : Nat} (hb : h[b]? = some (.cells c e (0, 0))) (o : Nat) : hfroz h ⟨b, o, none⟩ = false := by
  simp [hfroz, hw, World.frozen?, hb]
theorem hcell_lt {h : Hp} {a : Addr} {v : Value} (e : hcell h a = some v) : a.block < h.size := World.block_lt_of_cell? (hw h) a e
theorem add_block (a : Addr) (i : Nat) : (a.add i).block = a.block := by unfold Addr.add; split <;> rfl
theorem add_none (b o i : Nat) : (⟨b, o, none⟩ : Addr).add i = ⟨b, o + i, none⟩ := by unfold Addr.add; split <;> simp_all
theorem nw_add (h : Hp) (i : Nat) : (nw h).add i = ⟨h.size, i, none⟩ := by unfold nw; rw [add_none]; simp
theorem add_add (a : Addr) (i j : Nat) : (a.add i).add j = a.add (i + j) := by
  unfold Addr.add
  by_cases hi : i = 0
  · subst hi; simp
  · by_cases hj : j = 0
    · subst hj; simp [hi]
    · simp [hi, hj]; omega
theorem size_hset (h : Hp) (a : Addr) (v : Value) : (hset h a v).size = h.size := by simp [hset, hw, World.setCell]
theorem hset_other (h : Hp) (a : Addr) (v : Value) {b : Nat} (hb : b ≠ a.block) : (hset h a v)[b]? = h[b]? := by
  simp [hset, hw, World.setCell, Array.getElem?_modify, Ne.symm hb]
theorem hset_blk {h : Hp} {b : Nat} {c : Array Value} {e : Nat} {f : Nat × Nat} (hb : h[b]? = some (.cells c e f)) (o : Nat) (v : Value) : (hset h ⟨b, o, none⟩ v)[b]? = some (.cells (c.setIfInBounds o v) e f) := by
  simp [hset, hw, World.setCell, Array.getElem?_modify, hb]

/-- all blocks below lo are as they were. -/
structure Keep (lo : Nat) (h h' : Hp) : Prop where
  size : h.size ≤ h'.size
  block : ∀ b, b < lo → h'[b]? = h[b]?
theorem Keep.refl (lo : Nat) (h : Hp) : Keep lo h h := ⟨Nat.le_refl _, fun _ _ => rfl⟩
theorem Keep.trans {lo : Nat} {a b c : Hp} (h : Keep lo a b) (g : Keep lo b c) : Keep lo a c := ⟨Nat.le_trans h.size g.size, fun k hk => (g.block k hk).trans (h.block k hk)⟩
theorem Keep.le {lo lo' : Nat} {a b : Hp} (h : Keep lo a b) (hl : lo' ≤ lo) : Keep lo' a b := ⟨h.size, fun k hk => h.block k (by omega)⟩
theorem Ext.keep {h h' : Hp} (e : Ext h h') {lo : Nat} (hl : lo ≤ h.size) : Keep lo h h' := ⟨e.size, fun b hb => e.block b (by omega)⟩
theorem Keep.ext {h h' : Hp} (e : Keep h.size h h') : Ext h h' := ⟨e.size, e.block⟩
theorem Ext.toKeep {h h' : Hp} (e : Ext h h') : Keep h.size h h' := ⟨e.size, e.block⟩
theorem Keep.alc {lo : Nat} {h h' : Hp} (k : Keep lo h h') (c : List Value) (t : Nat) (hl : lo ≤ h'.size) : Keep lo h (Go.Proofs.Ytippdkokbhejmaa.alc h' c t) := k.trans ((alc_ext h' c t).keep hl)
theorem Keep.hset {lo : Nat} {h h' : Hp} (k : Keep lo h h') {a : Addr} (v : Value) (ha : lo ≤ a.block) : Keep lo h (Go.Proofs.Ytippdkokbhejmaa.hset h' a v) :=
  ⟨by rw [size_hset]; exact k.size, fun b hb => by rw [hset_other _ _ _ (by omega)]; exact k.block b hb⟩

/-! ### Rows that are read -/
theorem RdC.eq {h h' : Hp} {b : Option Addr} {l : List Value} (hr : RdC h b l) (e : ∀ a, b = some a → h'[a.block]? = h[a.block]?) : RdC h' b l := by
  intro i v hv
  obtain ⟨a, ha, hc⟩ := hr i v hv
  refine ⟨a, ha, ?_⟩
  rw [hcell_eq (h := h) (h' := h') (by rw [add_block]; exact e a ha)]
  exact hc
theorem RdC.lt {h : Hp} {b : Option Addr} {l : List Value} (hr : RdC h b l) (hl : l ≠ []) {a : Addr} (ha : b = some a) : a.block < h.size := by
  cases l with
  | nil => exact absurd rfl hl
  | cons v r =>
    obtain ⟨a', ha', hc⟩ := hr 0 v (by simp)
    have : a' = a := Option.some.inj (ha'.symm.trans ha)
    subst this
    have := hcell_lt hc
    rwa [add_block] at this
theorem RdC.nil (h : Hp) (b : Option Addr) : RdC h b [] := by intro i v hv; simp at hv
theorem RdC.keep {h h' : Hp} {lo : Nat} {b : Option Addr} {l : List Value} (hr : RdC h b l) (k : Keep lo h h') (hlo : ∀ a, b = some a → a.block < lo) : RdC h' b l :=
  hr.eq fun a ha => k.block _ (hlo a ha)
theorem RdC.ext {h h' : Hp} {b : Option Addr} {l : List Value} (hr : RdC h b l) (k : Ext h h') : RdC h' b l := by
  intro i v hv
  obtain ⟨a, ha, hc⟩ := hr i v hv
  exact ⟨a, ha, k.cell hc⟩
theorem RdC.take {h : Hp} {b : Option Addr} {l : List Value} (hr : RdC h b l) (n : Nat) : RdC h b (l.take n) := by
  intro i v hv
  rw [List.getElem?_take] at hv
  split at hv
  · exact hr i v hv
  · cases hv
theorem RdC.drop {h : Hp} {a : Addr} {l : List Value} (hr : RdC h (some a) l) (n : Nat) : RdC h (some (a.add n)) (l.drop n) := by
  intro i v hv
  rw [List.getElem?_drop] at hv
  obtain ⟨a', ha', hc⟩ := hr _ v hv
  cases ha'
  exact ⟨_, rfl, by rw [add_add]; exact hc⟩
theorem RdC.get {h : Hp} {b : Option Addr} {l : List Value} (hr : RdC h b l) {i : Nat} (hi : i < l.length) : ∃ a, b = some a ∧ hcell h (a.add i) = some l[i] := hr i _ (List.getElem?_eq_getElem hi)
theorem RdC.alc (h : Hp) (c : List Value) (t : Nat) : RdC (alc h c t) (some (nw h)) c := by
  intro i v hv
  refine ⟨_, rfl, ?_⟩
  rw [nw_add, hcell_blk (alc_new h c t)]
  simpa using hv

/-! ### Rows that the call owns -/
/-- the slice s owns the cells l: its block is from lo on. -/
structure Own (lo sz : Nat) (h : Hp) (s : Sl) (l : List Value) : Prop where
  len : l.length = s.len * sz
  le : s.len ≤ s.cap
  row : (s.base = none ∧ s.cap = 0) ∨ ∃ b c e, s.base = some ⟨b, 0, none⟩ ∧ lo ≤ b ∧ h[b]? = some (.cells c e (0, 0)) ∧ c.size = s.cap * sz ∧ c.toList.take (s.len * sz) = l
theorem Own.nil (lo sz : Nat) (h : Hp) : Own lo sz h Sl.nil [] := ⟨by simp [Sl.nil], Nat.le_refl _, .inl ⟨rfl, rfl⟩⟩
theorem Own.lt {lo sz : Nat} {h : Hp} {s : Sl} {l : List Value} (o : Own lo sz h s l) {a : Addr} (ha : s.base = some a) : lo ≤ a.block ∧ a.block < h.size := by
  rcases o.row with ⟨h1, _⟩ | ⟨b, c, e, h1, h2, h3, _⟩
  · rw [h1] at ha; cases ha
  · rw [h1] at ha; cases ha; exact ⟨h2, (Array.getElem?_eq_some_iff.1 h3).1⟩
theorem Own.rd {lo sz : Nat} {h : Hp} {s : Sl} {l : List Value} (o : Own lo sz h s l) : RdC h s.base l := by
  intro i v hv
  rcases o.row with ⟨h1, h2⟩ | ⟨b, c, e, h1, h2, h3, h4, h5⟩
  · have e0 : s.len = 0 := by have := o.le; omega
    have : l = [] := List.eq_nil_of_length_eq_zero (by rw [o.len, e0]; simp)
    subst this; simp at hv
  · refine ⟨_, h1, ?_⟩
    rw [add_none, hcell_blk h3]
    rw [← h5, List.getElem?_take] at hv
    split at hv
    · simpa using hv
    · cases hv
theorem Own.eq {lo sz : Nat} {h h' : Hp} {s : Sl} {l : List Value} (o : Own lo sz h s l) (e : ∀ a, s.base = some a → h'[a.block]? = h[a.block]?) : Own lo sz h' s l := by
  refine ⟨o.len, o.le, ?_⟩
  rcases o.row with h1 | ⟨b, c, t, h1, h2, h3, h4, h5⟩
  · exact .inl h1
  · exact .inr ⟨b, c, t, h1, h2, (e _ h1).trans h3, h4, h5⟩
theorem Own.ext {lo sz : Nat} {h h' : Hp} {s : Sl} {l : List Value} (o : Own lo sz h s l) (e : Ext h h') : Own lo sz h' s l := o.eq fun _ ha => e.block _ (o.lt ha).2
theorem Own.weak {lo lo' sz : Nat} {h : Hp} {s : Sl} {l : List Value} (o : Own lo sz h s l) (hl : lo' ≤ lo) : Own lo' sz h s l := by
  refine ⟨o.len, o.le, ?_⟩
  rcases o.row with h1 | ⟨b, c, t, h1, h2, h3, h4, h5⟩
  · exact .inl h1
  · exact .inr ⟨b, c, t, h1, by omega, h3, h4, h5⟩
/-- a block that was just made. -/
theorem Own.alc (h : Hp) (c : List Value) (t n sz : Nat) (hn : c.length = n * sz) : Own h.size sz (alc h c t) ⟨some (nw h), n, n⟩ c :=
  ⟨hn, Nat.le_refl _, .inr ⟨h.size, c.toArray, t, rfl, Nat.le_refl _, alc_new h c t, by simpa using hn, by show c.toArray.toList.take (n * sz) = c; rw [← hn, List.take_length]⟩⟩

theorem stCells_row {b : Nat} {e : Nat} {K : Hp → Prop} : ∀ (vs : List Value) (o i : Nat) (h : Hp) (c : Array Value), h[b]? = some (.cells c e (0, 0)) → o + i + vs.length ≤ c.size → (∀ v ∈ vs, cellOk v = true) →
    (∀ (h' : Hp) (c' : Array Value), h'[b]? = some (.cells c' e (0, 0)) → h'.size = h.size → (∀ k, k ≠ b → h'[k]? = h[k]?) → c'.size = c.size → (∀ j, c'[j]? = if o + i ≤ j ∧ j < o + i + vs.length then vs[j - (o + i)]? else c[j]?) → K h') → stCells ⟨b, o, none⟩ i vs h K
  | [], o, i, h, c, hb, _, _, hk => hk h c hb rfl (fun _ _ => rfl) rfl (fun j => by rw [if_neg (by simp only [List.length_nil]; omega)])
  | v :: r, o, i, h, c, hb, hsz, hok, hk => by
    have hv := hok v (by simp)
    simp only [List.length_cons] at hsz
    have hlt : o + i < c.size := by omega
    unfold stCells
    rw [hv, add_none]
    refine ⟨⟨?_, hfroz_blk hb _⟩, ?_⟩
    · rw [hcell_blk hb]; simp [hlt]
    · refine stCells_row r o (i + 1) _ (c.setIfInBounds (o + i) v) (hset_blk hb _ _) (by simp; omega) (fun u hu => hok u (by simp [hu])) ?_
      intro h' c' h1 h2 h3 h4 h5
      refine hk h' c' h1 (by rw [h2, size_hset]) (fun k hkb => by rw [h3 k hkb, hset_other _ _ _ hkb]) (by rw [h4]; simp) fun j => ?_
      rw [h5 j]
      by_cases e1 : o + (i + 1) ≤ j ∧ j < o + (i + 1) + r.length
      · rw [if_pos e1, if_pos (by simp only [List.length_cons]; omega)]
        rw [show j - (o + i) = (j - (o + (i + 1))) + 1 by omega]; simp
      · rw [if_neg e1]
        by_cases e2 : j = o + i
        · subst e2; rw [if_pos (by simp only [List.length_cons]; omega)]; simp [hlt]
        · rw [if_neg (by simp only [List.length_cons]; omega)]
          rw [Array.getElem?_setIfInBounds_ne (Ne.symm e2)]

theorem size_zeroCells (z : Array Value) (n : Nat) : (Builtin.zeroCells z n).size = n * z.size := by simp [Builtin.zeroCells]

theorem zeroCells_one (z : Value) (n : Nat) : Builtin.zeroCells #[z] n = (List.replicate n z).toArray := by
  apply Array.ext_getElem?
  intro i
  simp only [Builtin.zeroCells, List.size_toArray, List.length_cons, List.length_nil, Nat.zero_add, Nat.mul_one]
  by_cases hi : i < n
  · simp [hi, Nat.mod_one]
  · simp [hi]
/-- appending to a row of one's own. -/
theorem App_core {lo e sz n : Nat} {zc : Array Value} {s : Sl} {h : Hp} {K : Sl → Hp → Prop} {l news : List Value} (hz : zc.size = sz) (o : Own lo sz h s l) (hlo : lo ≤ h.size)
    (hn : news.length = n * sz) (hok : ∀ v ∈ news, cellOk v = true)
    (hK : ∀ r h', Own lo sz h' r (l ++ news) → r.len = s.len + n → Keep lo h h' → (∀ b, b < h.size → (∀ a, s.base = some a → b ≠ a.block) → h'[b]? = h[b]?) → (∀ a, r.base = some a → s.base = some a ∨ a.block = h.size) → K r h') :
    (s.len + n ≤ s.cap → stAll s.base (s.len * sz) news h (fun h' => K ⟨s.base, s.len + n, s.cap⟩ h')) ∧
    (s.cap < s.len + n → ∃ olds : List Value, olds.length = s.len * sz ∧ RdC h s.base olds ∧
      ∀ c, s.len + n ≤ c → c < 9223372036854775808 → K ⟨some ⟨h.size, 0, none⟩, s.len + n, c⟩ (h.push (.cells (olds.toArray ++ news.toArray ++ Builtin.zeroCells zc (c - (s.len + n))) e (0, 0)))) := by
  refine ⟨fun hc => ?_, fun hc => ⟨l, o.len, o.rd, fun c h1 h2 => ?_⟩⟩
  · rcases o.row with ⟨h1, h2⟩ | ⟨b, c, t, h1, h2, h3, h4, h5⟩
    · have hx0 : n = 0 ∧ s.len = 0 := by omega
      have : news = [] := List.eq_nil_of_length_eq_zero (by rw [hn, hx0.1]; simp)
      subst this
      unfold stAll
      rw [h1]
      have : (⟨none, s.len + n, s.cap⟩ : Sl) = s := by cases s; simp_all
      rw [this]
      exact hK s h (by simpa using o) (by omega) (.refl _ _) (fun _ _ _ => rfl) (fun a ha => .inl ha)
    · unfold stAll
      rw [h1]
      show stCells ((⟨b, 0, none⟩ : Addr).add (s.len * sz)) 0 news h _
      rw [add_none]
      have hfit : s.len * sz + n * sz ≤ c.size := by rw [h4, ← Nat.add_mul]; exact Nat.mul_le_mul_right _ hc
      refine stCells_row news _ 0 h c h3 (by rw [hn]; omega) hok ?_
      intro h' c' g1 g2 g3 g4 g5
      refine hK _ h' ⟨?_, hc, .inr ⟨b, c', t, rfl, h2, g1, by rw [g4]; exact h4, ?_⟩⟩ rfl ⟨by omega, fun k hk => g3 k (by omega)⟩ (fun k hk hne => g3 k (hne _ h1)) (fun a ha => .inl (h1.trans ha))
      · rw [List.length_append, o.len, hn, Nat.add_mul]
      · apply List.ext_getElem?
        intro j
        show (c'.toList.take ((s.len + n) * sz))[j]? = _
        rw [List.getElem?_take, Array.getElem?_toList, g5 j, List.getElem?_append, o.len, Nat.add_mul]
        by_cases e1 : j < s.len * sz
        · rw [if_pos (by omega), if_neg (by omega), if_pos e1, ← h5, List.getElem?_take, if_pos e1, Array.getElem?_toList]
        · by_cases e2 : j < s.len * sz + n * sz
          · rw [if_pos e2, if_pos (by rw [hn]; omega), if_neg e1]; simp
          · rw [if_neg e2, if_neg e1]
            exact (List.getElem?_eq_none (by rw [hn]; omega)).symm
  · refine hK _ _ ⟨by rw [List.length_append, o.len, hn, Nat.add_mul], h1, .inr ⟨h.size, _, e, rfl, hlo, by simp; rfl, ?_, ?_⟩⟩ rfl (Ext.keep (Ext.push _ _) hlo) (fun b hb _ => (Ext.push h _).block b hb) (fun a ha => .inr (by cases ha; rfl))
    · simp only [Array.size_append, List.size_toArray, size_zeroCells, hz]
      rw [List.length_append, o.len, hn, ← Nat.add_mul, ← Nat.add_mul]; congr 1; omega
    · simp only [Array.toList_append, List.append_assoc]
      rw [← List.append_assoc, show (s.len + n) * sz = (l ++ news).length by rw [List.length_append, o.len, hn, Nat.add_mul]]
      exact List.take_left

theorem AppC_own {lo e sz by_ : Nat} {zc : Array Value} {s x : Sl} {h : Hp} {K : Sl → Hp → Prop} {l news : List Value} (hz : zc.size = sz) (o : Own lo sz h s l) (hlo : lo ≤ h.size)
    (hn : news.length = x.len * sz) (hr : RdC h x.base news) (hok : ∀ v ∈ news, cellOk v = true) (hb : (s.len + x.len) * by_ ≤ 140737488355328) (hl : s.len + x.len < 9223372036854775807)
    (hK : ∀ r h', Own lo sz h' r (l ++ news) → r.len = s.len + x.len → Keep lo h h' → (∀ b, b < h.size → (∀ a, s.base = some a → b ≠ a.block) → h'[b]? = h[b]?) → K r h') : AppC e sz by_ zc s x h K :=
  ⟨news, hn, hr, hb, hl, App_core hz o hlo hn hok (fun r h' a b c d _ => hK r h' a b c d)⟩
theorem AppC_own5 {lo e sz by_ : Nat} {zc : Array Value} {s x : Sl} {h : Hp} {K : Sl → Hp → Prop} {l news : List Value} (hz : zc.size = sz) (o : Own lo sz h s l) (hlo : lo ≤ h.size)
    (hn : news.length = x.len * sz) (hr : RdC h x.base news) (hok : ∀ v ∈ news, cellOk v = true) (hb : (s.len + x.len) * by_ ≤ 140737488355328) (hl : s.len + x.len < 9223372036854775807)
    (hK : ∀ r h', Own lo sz h' r (l ++ news) → r.len = s.len + x.len → Keep lo h h' → (∀ b, b < h.size → (∀ a, s.base = some a → b ≠ a.block) → h'[b]? = h[b]?) → (∀ a, r.base = some a → s.base = some a ∨ a.block = h.size) → K r h') : AppC e sz by_ zc s x h K :=
  ⟨news, hn, hr, hb, hl, App_core hz o hlo hn hok hK⟩
/-- appending noughts. -/
theorem AppZ_own {lo e by_ m : Nat} {z : Value} {s : Sl} {n : Int} {h : Hp} {K : Sl → Hp → Prop} {l : List Value} (hn : n = m) (o : Own lo 1 h s l) (hlo : lo ≤ h.size)
    (hok : cellOk z = true) (hb : (s.len + m) * by_ ≤ 140737488355328) (hl : s.len + m < 9223372036854775807)
    (hK : ∀ r h', Own lo 1 h' r (l ++ List.replicate m z) → r.len = s.len + m → Keep lo h h' → (∀ b, b < h.size → (∀ a, s.base = some a → b ≠ a.block) → h'[b]? = h[b]?) → K r h') : AppZ e 1 by_ #[z] s n h K := by
  subst hn
  have hz := zeroCells_one z m
  have c := App_core (e := e) (zc := #[z]) (n := m) (K := K) (news := List.replicate m z) rfl o hlo (by simp) (fun v hv => by rw [List.eq_of_mem_replicate hv]; exact hok) (fun r h' a b c d _ => hK r h' a b c d)
  unfold AppZ
  rw [Int.toNat_natCast, hz]
  refine ⟨by omega, hb, hl, Nat.le_trans (Nat.mul_le_mul_right _ (Nat.le_add_left _ _)) hb, by omega, c.1, c.2⟩

/-- appending one element, which stands in a block that was just made for it. -/
theorem AppC_new {lo e t sz by_ : Nat} {zc : Array Value} {s : Sl} {h : Hp} {K : Sl → Hp → Prop} {l news : List Value} {n : Nat} (hz : zc.size = sz) (o : Own lo sz h s l) (hlo : lo ≤ h.size)
    (hn : news.length = n * sz) (hok : ∀ v ∈ news, cellOk v = true) (hb : (s.len + n) * by_ ≤ 140737488355328) (hl : s.len + n < 9223372036854775807)
    (hK : ∀ r h', Own lo sz h' r (l ++ news) → r.len = s.len + n → Keep lo h h' → (∀ b, b < h.size → (∀ a, s.base = some a → b ≠ a.block) → h'[b]? = h[b]?) → K r h') : AppC e sz by_ zc s (Sl.mk (some (nw h)) n n) (alc h news t) K :=
  AppC_own hz (o.ext (alc_ext _ _ _)) (by rw [size_alc]; omega) hn (RdC.alc h news t) hok hb hl fun r h' h1 h2 h3 h4 =>
    hK r h' h1 h2 (((Keep.refl lo h).alc news t hlo).trans h3) fun b hb hne => (h4 b (by rw [size_alc]; omega) hne).trans (alc_old h news t hb)

/-- storing into a row of one's own. -/
theorem Own.set {lo sz : Nat} {h : Hp} {s : Sl} {l : List Value} (o : Own lo sz h s l) {a : Addr} (ha : s.base = some a) {k : Nat} (hk : k < l.length) (v : Value) :
    StOk h (a.add k) ∧ Own lo sz (hset h (a.add k) v) s (l.set k v) ∧ Keep lo h (hset h (a.add k) v) ∧ (∀ b, b ≠ a.block → (hset h (a.add k) v)[b]? = h[b]?) ∧ (hset h (a.add k) v).size = h.size := by
  have hlt := o.lt ha
  rcases o.row with ⟨h1, _⟩ | ⟨b, c, t, h1, h2, h3, h4, h5⟩
  · rw [h1] at ha; cases ha
  · rw [h1] at ha
    cases ha
    rw [add_none, Nat.zero_add]
    have hkc : k < c.size := by
      have : l.length ≤ c.toList.length := by rw [← h5, List.length_take]; exact Nat.min_le_right _ _
      simp at this; omega
    have hkl : k < s.len * sz := by rw [← o.len]; exact hk
    refine ⟨⟨by rw [hcell_blk h3]; simp [hkc], hfroz_blk h3 _⟩, ⟨by simpa using o.len, o.le, .inr ⟨b, c.setIfInBounds k v, t, h1, h2, hset_blk h3 _ _, by simpa using h4, ?_⟩⟩, (Keep.refl lo h).hset v (by simpa using h2), fun b' hb' => hset_other _ _ _ hb', size_hset _ _ _⟩
    rw [← h5]
    apply List.ext_getElem?
    intro j
    rw [List.getElem?_take, List.getElem?_set, Array.getElem?_toList]
    by_cases e1 : j < s.len * sz
    · rw [if_pos e1]
      by_cases e2 : k = j
      · subst e2; simp [hkc]; omega
      · rw [if_neg e2, Array.getElem?_setIfInBounds_ne e2, List.getElem?_take, if_pos e1]; simp
    · rw [if_neg e1, if_neg (by omega), List.getElem?_take, if_neg e1]

/-- 'make([]T, n)', T of one cell. -/
theorem MkC_own {e by_ : Nat} {z : Value} {n : Nat} {h : Hp} {K : Sl → Hp → Prop} (hb : n * by_ ≤ 140737488355328) (hl : n < 9223372036854775807)
    (hK : K ⟨some (nw h), n, n⟩ (alc h (List.replicate n z) e)) : MkC e by_ #[z] (n : Int) (n : Int) h K := by
  refine ⟨by omega, by omega, by simpa using hb, by omega, ?_⟩
  simp only [Int.toNat_natCast]
  rw [zeroCells_one]
  exact hK

/-- reading an element of one cell. -/
theorem ix1 {h : Hp} {s : Sl} {l : List Value} (hr : RdC h s.base l) (hl : l.length = s.len) {i : Int} (k : Nat) (hi : i = k) (hk : k < l.length) {K : Addr → Prop}
    (hK : ∀ a, s.base = some a → hcell h (a.add (i.toNat * 1)) = some l[k] → K a) : ∃ a : Addr, s.base = some a ∧ 0 ≤ i ∧ i < (s.len : Int) ∧ K a := by
  obtain ⟨a, ha, hc⟩ := hr.get hk
  subst hi
  exact ⟨a, ha, by omega, by omega, hK a ha (by simpa using hc)⟩
/-- reading a byte. -/
theorem ixB {h : Hp} {s : Sl} {l : List UInt8} (hr : RdC h s.base (l.map bv)) (hl : l.length = s.len) {i : Int} (k : Nat) (hi : i = k) (hk : k < l.length) {K : Int → Prop}
    (hK : K (l[k].toNat : Int)) : ∃ a : Addr, s.base = some a ∧ 0 ≤ i ∧ i < (s.len : Int) ∧ ∃ c : Int, hcell h (a.add (i.toNat * 1)) = some (.int .u8 c) ∧ K c :=
  ix1 hr (by simpa using hl) k hi (by simpa using hk) fun a _ hc => ⟨_, by simpa [bv] using hc, hK⟩
theorem cellOk_bv (l : List UInt8) : ∀ v ∈ l.map bv, cellOk v = true := by
  intro v hv
  obtain ⟨x, _, rfl⟩ := List.mem_map.1 hv
  rfl

/-- a slice that can be read: its elements' cells are l. -/
structure Rd (sz : Nat) (h : Hp) (s : Sl) (l : List Value) : Prop where
  len : l.length = s.len * sz
  cap : s.len ≤ s.cap
  rd : RdC h s.base l
theorem Own.toRd {lo sz : Nat} {h : Hp} {s : Sl} {l : List Value} (o : Own lo sz h s l) : Rd sz h s l := ⟨o.len, o.le, o.rd⟩
theorem Rd.ext {sz : Nat} {h h' : Hp} {s : Sl} {l : List Value} (r : Rd sz h s l) (e : Ext h h') : Rd sz h' s l := ⟨r.len, r.cap, r.rd.ext e⟩
theorem Rd.nil (sz : Nat) (h : Hp) : Rd sz h Sl.nil [] := ⟨by simp [Sl.nil], Nat.le_refl _, RdC.nil _ _⟩
/-- the cut s[lo:hi:m] reads. -/
theorem Rd.cut {sz : Nat} {h : Hp} {s : Sl} {l : List Value} (r : Rd sz h s l) {lo hi m : Nat} (h1 : lo ≤ hi) (h2 : hi ≤ s.len) (h3 : hi ≤ m) : Rd sz h (cutSl s lo hi m sz) ((l.drop (lo * sz)).take ((hi - lo) * sz)) := by
  have hlen := r.len
  have hh : hi * sz ≤ s.len * sz := Nat.mul_le_mul_right _ h2
  have hl : lo * sz ≤ hi * sz := Nat.mul_le_mul_right _ h1
  have hs : (hi - lo) * sz = hi * sz - lo * sz := Nat.sub_mul _ _ _
  refine ⟨?_, ?_, ?_⟩
  · simp only [cutSl, Int.toNat_natCast, List.length_take, List.length_drop]; omega
  · simp only [cutSl, Int.toNat_natCast]; omega
  · simp only [cutSl, Int.toNat_natCast]
    by_cases e : m = lo
    · have : (hi - lo) * sz = 0 := by rw [show hi - lo = 0 by omega]; simp
      rw [this]; simp only [List.take_zero]; exact RdC.nil _ _
    · rw [if_neg e]
      cases hb : s.base with
      | none =>
        have hr := r.rd
        rw [hb] at hr
        have : l = [] := by
          cases l with
          | nil => rfl
          | cons v t => obtain ⟨_, e, _⟩ := hr 0 v (by simp); cases e
        subst this; simp; exact RdC.nil _ _
      | some a =>
        have hr := r.rd
        rw [hb] at hr
        exact (hr.drop _).take _
theorem cut_len {s : Sl} {lo hi m : Nat} {sz : Nat} : (cutSl s lo hi m sz).len = hi - lo := by simp [cutSl]
theorem cut_cap {s : Sl} {lo hi m : Nat} {sz : Nat} : (cutSl s lo hi m sz).cap = m - lo := by simp [cutSl]
/-- bytes. -/
theorem Rd.cutB {h : Hp} {s : Sl} {l : List UInt8} (r : Rd 1 h s (l.map bv)) {lo hi m : Nat} (h1 : lo ≤ hi) (h2 : hi ≤ s.len) (h3 : hi ≤ m) : Rd 1 h (cutSl s lo hi m 1) (((l.drop lo).take (hi - lo)).map bv) := by
  have := r.cut h1 h2 h3
  simpa [List.map_take, List.map_drop] using this
theorem Rd.lenB {h : Hp} {s : Sl} {l : List UInt8} (r : Rd 1 h s (l.map bv)) : l.length = s.len := by simpa using r.len

end Go.Proofs.Ytippdkokbhejmaa
