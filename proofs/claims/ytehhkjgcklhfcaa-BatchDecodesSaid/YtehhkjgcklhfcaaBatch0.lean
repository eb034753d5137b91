/-
  Batches as plain data, and how they stand in memory.
-/
import Derived.Test.YtehhkjgcklhfcaaOwnR
namespace Go.Proofs.Ytehhkjgcklhfcaa
set_option linter.unusedVariables false
set_option linter.unusedSimpArgs false

abbrev PutD := Int × List UInt8
abbrev TxD := Int × List PutD
theorem ffIff {p : Prop} (h : ¬ p) : (false = true) ↔ p := ⟨fun e => (by cases e), fun hp => absurd hp h⟩
theorem ttIff {p : Prop} (h : p) : (true = true) ↔ p := ⟨fun _ => h, fun _ => rfl⟩
/-- rows of a number and a slice. -/
def c2 (l : List (Int × Sl)) : List Value := l.flatMap fun p => [.int .i64 p.1, slV p.2]
theorem c2_cons (p : Int × Sl) (r : List (Int × Sl)) : c2 (p :: r) = .int .i64 p.1 :: slV p.2 :: c2 r := rfl
theorem c2_length : ∀ l, (c2 l).length = l.length * 2
  | [] => rfl
  | p :: r => by rw [c2_cons]; simp only [List.length_cons, c2_length r]; omega
theorem c2_get0 : ∀ (l : List (Int × Sl)) (i : Nat), (c2 l)[i * 2]? = (l[i]?).map fun p => .int .i64 p.1
  | [], i => by simp [c2]
  | p :: r, 0 => rfl
  | p :: r, i + 1 => by rw [c2_cons, show (i + 1) * 2 = i * 2 + 1 + 1 by omega]; simpa using c2_get0 r i
theorem c2_get1 : ∀ (l : List (Int × Sl)) (i : Nat), (c2 l)[i * 2 + 1]? = (l[i]?).map fun p => slV p.2
  | [], i => by simp [c2]
  | p :: r, 0 => rfl
  | p :: r, i + 1 => by rw [c2_cons, show (i + 1) * 2 + 1 = i * 2 + 1 + 1 + 1 by omega]; simpa using c2_get1 r i
theorem c2_append (a b : List (Int × Sl)) : c2 (a ++ b) = c2 a ++ c2 b := by simp [c2]
theorem c2_ok (l : List (Int × Sl)) : ∀ v ∈ c2 l, cellOk v = true := by
  intro v hv
  obtain ⟨p, _, h⟩ := List.mem_flatMap.1 hv
  simp only [List.mem_cons, List.not_mem_nil, or_false] at h
  rcases h with rfl | rfl <;> rfl
theorem c2_drop : ∀ (l : List (Int × Sl)) (k : Nat), (c2 l).drop (k * 2) = c2 (l.drop k)
  | l, 0 => by simp
  | [], k + 1 => by simp [c2]
  | p :: r, k + 1 => by rw [c2_cons, show (k + 1) * 2 = k * 2 + 1 + 1 by omega]; simpa using c2_drop r k
theorem c2_take : ∀ (l : List (Int × Sl)) (k : Nat), (c2 l).take (k * 2) = c2 (l.take k)
  | l, 0 => by simp [c2]
  | [], k + 1 => by simp [c2]
  | p :: r, k + 1 => by rw [c2_cons, show (k + 1) * 2 = k * 2 + 1 + 1 by omega]; simp only [List.take_succ_cons]; rw [c2_take r k]; rfl
/-- reading an element of two cells. -/
theorem ix2 {h : Hp} {s : Sl} {l : List (Int × Sl)} (r : Rd 2 h s (c2 l)) {i : Int} (k : Nat) (hi : i = k) (hk : k < l.length) {K : Addr → Prop}
    (hK : ∀ a, hcell h (a.add (i.toNat * 2)) = some (.int .i64 l[k].1) → hcell h ((a.add (i.toNat * 2)).add 1) = some (.slice l[k].2.base l[k].2.len l[k].2.cap) → K a) : ∃ a : Addr, s.base = some a ∧ 0 ≤ i ∧ i < (s.len : Int) ∧ K a := by
  subst hi
  have hl := r.len
  rw [c2_length] at hl
  obtain ⟨a, ha, c0⟩ := r.rd (k * 2) (.int .i64 l[k].1) (by rw [c2_get0, List.getElem?_eq_getElem hk]; rfl)
  obtain ⟨a', ha', c1⟩ := r.rd (k * 2 + 1) (slV l[k].2) (by rw [c2_get1, List.getElem?_eq_getElem hk]; rfl)
  obtain rfl : a = a' := by rw [ha] at ha'; exact Option.some.inj ha'
  exact ⟨a, ha, by omega, by omega, hK a (by simpa using c0) (by rw [add_add]; simpa [slV] using c1)⟩
theorem Rd.mv {sz : Nat} {h h' : Hp} {s : Sl} {l : List Value} (r : Rd sz h s l) {B : Nat → Prop} (hb : ∀ a, s.base = some a → s.len ≠ 0 → B a.block) (e : ∀ b, B b → h'[b]? = h[b]?) : Rd sz h' s l := by
  by_cases h0 : s.len = 0
  · have hl := r.len
    have : l = [] := List.eq_nil_of_length_eq_zero (by rw [hl, h0]; simp)
    subst this
    exact ⟨r.len, r.cap, RdC.nil _ _⟩
  · exact r.eq fun a ha => e _ (hb a ha h0)

/-- Puts that can be read, in blocks of B. -/
def PutsR (B : Nat → Prop) (h : Hp) (s : Sl) (P : List PutD) : Prop :=
  ∃ L : List ((Int × Sl) × List UInt8), P = L.map (fun x => (x.1.1, x.2)) ∧ Rd 2 h s (c2 (L.map (·.1))) ∧ (∀ a, s.base = some a → s.len ≠ 0 → B a.block) ∧ ∀ x ∈ L, Rd 1 h x.1.2 (x.2.map bv) ∧ ∀ a, x.1.2.base = some a → x.1.2.len ≠ 0 → B a.block
theorem PutsR.ext {B : Nat → Prop} {h h' : Hp} {s : Sl} {P : List PutD} (p : PutsR B h s P) (e : Ext h h') : PutsR B h' s P := by
  obtain ⟨L, h1, h2, h3, h4⟩ := p
  exact ⟨L, h1, h2.ext e, h3, fun x hx => ⟨(h4 x hx).1.ext e, (h4 x hx).2⟩⟩
theorem PutsR.eq {B : Nat → Prop} {h h' : Hp} {s : Sl} {P : List PutD} (p : PutsR B h s P) (e : ∀ b, B b → h'[b]? = h[b]?) : PutsR B h' s P := by
  obtain ⟨L, h1, h2, h3, h4⟩ := p
  exact ⟨L, h1, h2.mv h3 e, h3, fun x hx => ⟨(h4 x hx).1.mv (h4 x hx).2 e, (h4 x hx).2⟩⟩
theorem PutsR.mono {B B' : Nat → Prop} {h : Hp} {s : Sl} {P : List PutD} (p : PutsR B h s P) (hb : ∀ b, B b → B' b) : PutsR B' h s P := by
  obtain ⟨L, h1, h2, h3, h4⟩ := p
  exact ⟨L, h1, h2, fun a ha h0 => hb _ (h3 a ha h0), fun x hx => ⟨(h4 x hx).1, fun a ha h0 => hb _ ((h4 x hx).2 a ha h0)⟩⟩
theorem PutsR.len {B : Nat → Prop} {h : Hp} {s : Sl} {P : List PutD} (p : PutsR B h s P) : s.len = P.length := by
  obtain ⟨L, rfl, h2, _⟩ := p
  have := h2.len
  rw [c2_length] at this
  simp at this ⊢; omega
theorem PutsR.ix {B : Nat → Prop} {h : Hp} {s : Sl} {P : List PutD} (p : PutsR B h s P) {i : Int} (k : Nat) (hi : i = k) (hk : k < P.length) {K : Addr → Prop}
    (hK : ∀ a d, hcell h (a.add (i.toNat * 2)) = some (.int .i64 P[k].1) → hcell h ((a.add (i.toNat * 2)).add 1) = some (.slice d.base d.len d.cap) → Rd 1 h d (P[k].2.map bv) → (∀ a, d.base = some a → d.len ≠ 0 → B a.block) → K a) : ∃ a : Addr, s.base = some a ∧ 0 ≤ i ∧ i < (s.len : Int) ∧ K a := by
  obtain ⟨L, rfl, h2, h3, h4⟩ := p
  have hkL : k < L.length := by simpa using hk
  refine ix2 h2 k hi (by simpa using hkL) fun a c0 c1 => ?_
  have hm := h4 L[k] (List.getElem_mem hkL)
  exact hK a L[k].1.2 (by simpa using c0) (by simpa using c1) (by simpa using hm.1) hm.2
/-- transactions that can be read. -/
def TxsR (B : Nat → Prop) (h : Hp) (s : Sl) (T : List TxD) : Prop :=
  ∃ L : List ((Int × Sl) × List PutD), T = L.map (fun x => (x.1.1, x.2)) ∧ Rd 2 h s (c2 (L.map (·.1))) ∧ (∀ a, s.base = some a → s.len ≠ 0 → B a.block) ∧ ∀ x ∈ L, PutsR B h x.1.2 x.2
theorem TxsR.ext {B : Nat → Prop} {h h' : Hp} {s : Sl} {T : List TxD} (p : TxsR B h s T) (e : Ext h h') : TxsR B h' s T := by
  obtain ⟨L, h1, h2, h3, h4⟩ := p
  exact ⟨L, h1, h2.ext e, h3, fun x hx => (h4 x hx).ext e⟩
theorem TxsR.eq {B : Nat → Prop} {h h' : Hp} {s : Sl} {T : List TxD} (p : TxsR B h s T) (e : ∀ b, B b → h'[b]? = h[b]?) : TxsR B h' s T := by
  obtain ⟨L, h1, h2, h3, h4⟩ := p
  exact ⟨L, h1, h2.mv h3 e, h3, fun x hx => (h4 x hx).eq e⟩
theorem TxsR.mono {B B' : Nat → Prop} {h : Hp} {s : Sl} {T : List TxD} (p : TxsR B h s T) (hb : ∀ b, B b → B' b) : TxsR B' h s T := by
  obtain ⟨L, h1, h2, h3, h4⟩ := p
  exact ⟨L, h1, h2, fun a ha h0 => hb _ (h3 a ha h0), fun x hx => (h4 x hx).mono hb⟩
theorem TxsR.len {B : Nat → Prop} {h : Hp} {s : Sl} {T : List TxD} (p : TxsR B h s T) : s.len = T.length := by
  obtain ⟨L, rfl, h2, _⟩ := p
  have := h2.len
  rw [c2_length] at this
  simp at this ⊢; omega
theorem TxsR.ix {B : Nat → Prop} {h : Hp} {s : Sl} {T : List TxD} (p : TxsR B h s T) {i : Int} (k : Nat) (hi : i = k) (hk : k < T.length) {K : Addr → Prop}
    (hK : ∀ a d, hcell h (a.add (i.toNat * 2)) = some (.int .i64 T[k].1) → hcell h ((a.add (i.toNat * 2)).add 1) = some (.slice d.base d.len d.cap) → PutsR B h d T[k].2 → K a) : ∃ a : Addr, s.base = some a ∧ 0 ≤ i ∧ i < (s.len : Int) ∧ K a := by
  obtain ⟨L, rfl, h2, h3, h4⟩ := p
  have hkL : k < L.length := by simpa using hk
  refine ix2 h2 k hi (by simpa using hkL) fun a c0 c1 => ?_
  have hm := h4 L[k] (List.getElem_mem hkL)
  exact hK a L[k].1.2 (by simpa using c0) (by simpa using c1) (by simpa using hm)
/-- a copy in a block of its own. -/
theorem loc2 {h : Hp} {K : Hp → Prop} {v0 v1 w0 w1 : Value} {t : Nat} (ok0 : cellOk v0 = true) (ok1 : cellOk v1 = true)
    (hK : ∀ h', Ext h h' → Row h' h.size [v0, v1] → K h') : stCells (nw h) 0 [v0, v1] (alc h [w0, w1] t) K :=
  (Row.alc h [w0, w1] t).put (vs := [v0, v1]) rfl (by simp [ok0, ok1]) fun h' r' s' o' => hK h' ⟨by rw [s', size_alc]; omega, fun b hb => by rw [o' b (by omega), alc_old _ _ _ hb]⟩ r'
theorem Row.get2s {h : Hp} {b : Nat} {x : Int} {y : Sl} (r : Row h b [.int .i64 x, .slice y.base y.len y.cap]) {K : Int → Sl → Prop} (hK : K x y) :
    ∃ c : Int, ∃ c1 : Sl, hcell h ⟨b, 0, none⟩ = some (.int .i64 c) ∧ hcell h ((⟨b, 0, none⟩ : Addr).add 1) = some (.slice c1.base c1.len c1.cap) ∧ K c c1 := ⟨x, y, r.get0 rfl, r.get rfl, hK⟩

/-! ### What a batch may be -/
def tm (T : List TxD) (j : Nat) : Int := (T.getD j (0, [])).1
def pt (T : List TxD) (j : Nat) : List PutD := (T.getD j (0, [])).2
def lb (P : List PutD) (j : Nat) : Int := (P.getD j (0, [])).1
def dt (P : List PutD) (j : Nat) : List UInt8 := (P.getD j (0, [])).2
theorem tm_get {T : List TxD} {j : Nat} (h : j < T.length) : T[j].1 = tm T j := by simp [tm, h]
theorem pt_get {T : List TxD} {j : Nat} (h : j < T.length) : T[j].2 = pt T j := by simp [pt, h]
theorem lb_get {P : List PutD} {j : Nat} (h : j < P.length) : P[j].1 = lb P j := by simp [lb, h]
theorem dt_get {P : List PutD} {j : Nat} (h : j < P.length) : P[j].2 = dt P j := by simp [dt, h]
def prevT (T : List TxD) (j : Nat) : Int := if j = 0 then 0 else tm T (j - 1)
def RisesP (P : List PutD) : Prop := ∀ k, 0 < k → k < P.length → lb P (k - 1) < lb P k
def OrderP (T : List TxD) : Prop := ∀ j, j < T.length → prevT T j < tm T j ∧ tm T j ≤ 1099511627776 ∧ (pt T j).length ≠ 0 ∧ RisesP (pt T j)
def blocksN (T : List TxD) : Nat := 1 + (T.map (·.2.length)).sum
def PutOk (p : PutD) : Prop := 0 ≤ p.1 ∧ p.1 ≤ 1048576 ∧ p.2.length = 40
structure CheckP (num : Int) (T : List TxD) : Prop where
  num : 1 ≤ num ∧ num ≤ 1099511627776
  len : 1 ≤ T.length ∧ T.length ≤ 8
  order : OrderP T
  blocks : blocksN T ≤ 33
  each : ∀ j, j < T.length → (0 < j → tm T j - tm T (j - 1) ≤ 65535) ∧ (pt T j).length ≤ 16 ∧ ∀ p ∈ pt T j, PutOk p
theorem blocksN_take {T : List TxD} {j : Nat} (h : j < T.length) : blocksN (T.take (j + 1)) = blocksN (T.take j) + (pt T j).length := by
  unfold blocksN
  rw [List.take_succ_eq_append_getElem h, List.map_append, List.sum_append]
  simp [pt, h]; omega
theorem blocksN_le (T : List TxD) (j : Nat) : blocksN (T.take j) ≤ blocksN T := by
  unfold blocksN
  conv => rhs; rw [← List.take_append_drop j T]
  rw [List.map_append, List.sum_append]; omega

end Go.Proofs.Ytehhkjgcklhfcaa
