/-
  Package alloc (chapter 10): what each function answers, said of a list of zones.
-/
import Derived.Test.YtmnkafplmbngnaaG
import Derived.Test.YtmnkafplmbngnaaMem
namespace Go.Proofs.Ytmnkafplmbngnaa
set_option linter.unusedVariables false
set_option linter.unusedSimpArgs false

def iv (n : Nat) : Value := .int .i64 (n : Int)
/-- a copy of two cells. -/
theorem cp2 {h : Hp} {K : Hp → Prop} {v0 v1 w0 w1 : Value} {t : Nat} (ok0 : cellOk v0 = true) (ok1 : cellOk v1 = true)
    (hK : ∀ h', Ext h h' → h'.size = h.size + 1 → hcell h' (nw h) = some v0 → hcell h' ((nw h).add 1) = some v1 → K h') : stCells (nw h) 0 [v0, v1] (alc h [w0, w1] t) K := by
  refine stCells_row [v0, v1] 0 0 _ _ (alc_new h _ _) (by simp) (by simp [ok0, ok1]) ?_
  intro h' c' h1 h2 h3 h4 h5
  refine hK h' ⟨by rw [h2, size_alc]; omega, fun b hb => ?_⟩ (by rw [h2, size_alc]) ?_ ?_
  · rw [h3 b (by omega), alc_old _ _ _ hb]
  · unfold nw; rw [hcell_blk h1, h5 0]; rfl
  · rw [nw_add, hcell_blk h1, h5 1]; rfl
/-- only one old block is another. -/
structure Only (z : Nat) (h h' : Hp) : Prop where
  size : h.size ≤ h'.size
  block : ∀ b, b < h.size → b ≠ z → h'[b]? = h[b]?
theorem Ext.only {h h' : Hp} (e : Ext h h') (z : Nat) : Only z h h' := ⟨e.size, fun b hb _ => e.block b hb⟩
theorem Only.trans {z : Nat} {a b c : Hp} (h : Only z a b) (g : Only z b c) : Only z a c := ⟨Nat.le_trans h.size g.size, fun k hk hz => (g.block k (Nat.lt_of_lt_of_le hk h.size) hz).trans (h.block k hk hz)⟩
theorem Only.ext {z : Nat} {h0 h h' : Hp} (e : Ext h0 h) (o : Only z h h') (hz : h0.size ≤ z) : Ext h0 h' := ⟨Nat.le_trans e.size o.size, fun b hb => (o.block b (Nat.lt_of_lt_of_le hb e.size) (by omega)).trans (e.block b hb)⟩
theorem Only.hset {z : Nat} {h h' : Hp} (o : Only z h h') {a : Addr} (ha : a.block = z) (v : Value) : Only z h (Go.Proofs.Ytmnkafplmbngnaa.hset h' a v) :=
  ⟨by rw [size_hset]; exact o.size, fun b hb hz => by rw [hset_other _ _ _ (by omega)]; exact o.block b hb hz⟩

/-! ### Zones as a list -/
def zV (z : Bool × Nat) : List Value := [.bool z.1, .int .i64 (z.2 : Int)]
def cellsZ (zs : List (Bool × Nat)) : List Value := zs.flatMap zV
theorem cellsZ_length : ∀ zs : List (Bool × Nat), (cellsZ zs).length = 2 * zs.length
  | [] => rfl
  | z :: r => by have := cellsZ_length r; simp only [cellsZ, List.flatMap_cons, List.length_append, List.length_cons] at this ⊢; simp only [zV, List.length_cons, List.length_nil]; omega
theorem cellsZ_even : ∀ (zs : List (Bool × Nat)) (i : Nat), (cellsZ zs)[i * 2]? = (zs[i]?).map fun z => .bool z.1
  | [], i => by simp [cellsZ]
  | z :: r, 0 => rfl
  | z :: r, i + 1 => by
    have := cellsZ_even r i
    have e : cellsZ (z :: r) = .bool z.1 :: .int .i64 (z.2 : Int) :: cellsZ r := rfl
    rw [e, show (i + 1) * 2 = i * 2 + 1 + 1 by omega]; simpa using this
theorem cellsZ_odd : ∀ (zs : List (Bool × Nat)) (i : Nat), (cellsZ zs)[i * 2 + 1]? = (zs[i]?).map fun z => .int .i64 (z.2 : Int)
  | [], i => by simp [cellsZ]
  | z :: r, 0 => rfl
  | z :: r, i + 1 => by
    have := cellsZ_odd r i
    have e : cellsZ (z :: r) = .bool z.1 :: .int .i64 (z.2 : Int) :: cellsZ r := rfl
    rw [e, show (i + 1) * 2 + 1 = i * 2 + 1 + 1 + 1 by omega]; simpa using this
theorem cellsZ_setE : ∀ (zs : List (Bool × Nat)) (i : Nat) (hi : i < zs.length) (x : Bool), (cellsZ zs).set (i * 2) (.bool x) = cellsZ (zs.set i (x, zs[i].2))
  | z :: r, 0, _, x => rfl
  | z :: r, i + 1, hi, x => by
    have := cellsZ_setE r i (by simpa using hi) x
    have e : cellsZ (z :: r) = .bool z.1 :: .int .i64 (z.2 : Int) :: cellsZ r := rfl
    rw [e, show (i + 1) * 2 = i * 2 + 1 + 1 by omega]
    simp only [List.set_cons_succ, List.getElem_cons_succ]
    rw [this]; rfl
theorem cellsZ_setO : ∀ (zs : List (Bool × Nat)) (i : Nat) (hi : i < zs.length) (x : Nat), (cellsZ zs).set (i * 2 + 1) (.int .i64 (x : Int)) = cellsZ (zs.set i (zs[i].1, x))
  | z :: r, 0, _, x => rfl
  | z :: r, i + 1, hi, x => by
    have := cellsZ_setO r i (by simpa using hi) x
    have e : cellsZ (z :: r) = .bool z.1 :: .int .i64 (z.2 : Int) :: cellsZ r := rfl
    rw [e, show (i + 1) * 2 + 1 = i * 2 + 1 + 1 + 1 by omega]
    simp only [List.set_cons_succ, List.getElem_cons_succ]
    rw [this]; rfl
def tk (zs : List (Bool × Nat)) (i : Nat) : Bool := (zs.getD i (true, 0)).1
def wr (zs : List (Bool × Nat)) (i : Nat) : Nat := (zs.getD i (true, 0)).2
theorem tk_get {zs : List (Bool × Nat)} {i : Nat} (hi : i < zs.length) : tk zs i = zs[i].1 := by simp [tk, hi]
theorem wr_get {zs : List (Bool × Nat)} {i : Nat} (hi : i < zs.length) : wr zs i = zs[i].2 := by simp [wr, hi]
theorem tk_set {zs : List (Bool × Nat)} {i j : Nat} (hi : i < zs.length) (z : Bool × Nat) : tk (zs.set i z) j = if j = i then z.1 else tk zs j := by
  unfold tk
  by_cases h : j = i
  · subst h; simp [hi]
  · rw [if_neg h]; simp [List.getD, List.getElem?_set, Ne.symm h]
theorem wr_set {zs : List (Bool × Nat)} {i j : Nat} (hi : i < zs.length) (z : Bool × Nat) : wr (zs.set i z) j = if j = i then z.2 else wr zs j := by
  unfold wr
  by_cases h : j = i
  · subst h; simp [hi]
  · rw [if_neg h]; simp [List.getD, List.getElem?_set, Ne.symm h]
/-- the free ones below k. -/
def freeUp (zs : List (Bool × Nat)) (k : Nat) : List Nat := (List.range k).filter fun i => !tk zs i
def freeL (zs : List (Bool × Nat)) : List Nat := freeUp zs zs.length
theorem freeUp_succ (zs : List (Bool × Nat)) (k : Nat) : freeUp zs (k + 1) = freeUp zs k ++ if tk zs k then [] else [k] := by
  unfold freeUp; rw [List.range_succ, List.filter_append]; cases h : tk zs k <;> simp [h]
theorem freeUp_le (zs : List (Bool × Nat)) (k : Nat) : (freeUp zs k).length ≤ k := by
  unfold freeUp; exact Nat.le_trans (List.length_filter_le _ _) (by simp)
/-- what is worn least of those below k, the first of such. -/
structure Least (zs : List (Bool × Nat)) (k b : Nat) : Prop where
  lt : b < k
  free : tk zs b = false
  le : ∀ i, i < k → tk zs i = false → wr zs b ≤ wr zs i
  first : ∀ i, i < b → tk zs i = false → wr zs b < wr zs i
def BestP (zs : List (Bool × Nat)) (k : Nat) (best : Int) : Prop := (best = -1 ∧ ∀ i, i < k → tk zs i = true) ∨ ∃ b : Nat, best = b ∧ Least zs k b
theorem Least.uniq {zs : List (Bool × Nat)} {k a b : Nat} (x : Least zs k a) (y : Least zs k b) : a = b := by
  rcases Nat.lt_trichotomy a b with h | h | h
  · have := y.first a h x.free; have := x.le b y.lt y.free; omega
  · exact h
  · have := x.first b h y.free; have := y.le a x.lt x.free; omega
theorem BestP.taken {zs : List (Bool × Nat)} {k : Nat} {best : Int} (x : BestP zs k best) (h : tk zs k = true) : BestP zs (k + 1) best := by
  rcases x with ⟨h1, h2⟩ | ⟨b, h1, h2⟩
  · exact .inl ⟨h1, fun i hi => by rcases Nat.lt_succ_iff_lt_or_eq.1 hi with h' | h'; exact h2 i h'; rw [h']; exact h⟩
  · refine .inr ⟨b, h1, Nat.lt_succ_of_lt h2.lt, h2.free, fun i hi hf => ?_, h2.first⟩
    rcases Nat.lt_succ_iff_lt_or_eq.1 hi with h' | h'
    · exact h2.le i h' hf
    · rw [h', h] at hf; cases hf
theorem BestP.keep {zs : List (Bool × Nat)} {k b : Nat} (x : Least zs k b) (h : wr zs b ≤ wr zs k) : BestP zs (k + 1) b := by
  refine .inr ⟨b, rfl, Nat.lt_succ_of_lt x.lt, x.free, fun i hi hf => ?_, x.first⟩
  rcases Nat.lt_succ_iff_lt_or_eq.1 hi with h' | h'
  · exact x.le i h' hf
  · rw [h']; exact h
theorem BestP.new {zs : List (Bool × Nat)} {k b : Nat} (x : Least zs k b) (hf : tk zs k = false) (h : wr zs k < wr zs b) : BestP zs (k + 1) k := by
  refine .inr ⟨k, rfl, Nat.lt_succ_self k, hf, fun i hi hfi => ?_, fun i hi hfi => ?_⟩
  · rcases Nat.lt_succ_iff_lt_or_eq.1 hi with h' | h'
    · have := x.le i h' hfi; omega
    · rw [h']; exact Nat.le_refl _
  · have := x.le i hi hfi; omega
theorem BestP.one {zs : List (Bool × Nat)} {k : Nat} (x : ∀ i, i < k → tk zs i = true) (hf : tk zs k = false) : BestP zs (k + 1) k := by
  refine .inr ⟨k, rfl, Nat.lt_succ_self k, hf, fun i hi hfi => ?_, fun i hi hfi => ?_⟩
  · rcases Nat.lt_succ_iff_lt_or_eq.1 hi with h' | h'
    · rw [x i h'] at hfi; cases hfi
    · rw [h']; exact Nat.le_refl _
  · rw [x i hi] at hfi; cases hfi
theorem freeL_pos {zs : List (Bool × Nat)} (h : (freeL zs).length ≠ 0) : ∃ i, i < zs.length ∧ tk zs i = false := by
  obtain ⟨x, hx⟩ := List.exists_mem_of_length_pos (Nat.pos_of_ne_zero h)
  unfold freeL freeUp at hx
  rw [List.mem_filter] at hx
  exact ⟨x, by simpa using hx.1, by simpa using hx.2⟩

/-! ### Zones in memory -/
structure AL (h : Hp) (b zb : Nat) (zs : List (Bool × Nat)) (spare : Nat) : Prop where
  ne : b ≠ zb
  box : ∃ t, h[b]? = some (.cells #[.slice (some ⟨zb, 0, none⟩) zs.length zs.length, .int .i64 (spare : Int)] t (0, 0))
  zn : ∃ e, h[zb]? = some (.cells (cellsZ zs).toArray e (0, 0))
theorem AL.eq {h h' : Hp} {b zb : Nat} {zs : List (Bool × Nat)} {sp : Nat} (x : AL h b zb zs sp) (e1 : h'[b]? = h[b]?) (e2 : h'[zb]? = h[zb]?) : AL h' b zb zs sp := by
  obtain ⟨t, ht⟩ := x.box; obtain ⟨e, he⟩ := x.zn
  exact ⟨x.ne, ⟨t, by rw [e1, ht]⟩, ⟨e, by rw [e2, he]⟩⟩
theorem blk_lt {h : Hp} {b : Nat} {o : Obj} (e : h[b]? = some o) : b < h.size := (Array.getElem?_eq_some_iff.1 e).1
theorem AL.lt {h : Hp} {b zb : Nat} {zs : List (Bool × Nat)} {sp : Nat} (x : AL h b zb zs sp) : b < h.size ∧ zb < h.size := by
  obtain ⟨t, ht⟩ := x.box; obtain ⟨e, he⟩ := x.zn
  exact ⟨blk_lt ht, blk_lt he⟩
theorem AL.ext {h h' : Hp} {b zb : Nat} {zs : List (Bool × Nat)} {sp : Nat} (x : AL h b zb zs sp) (e : Ext h h') : AL h' b zb zs sp := x.eq (e.block _ x.lt.1) (e.block _ x.lt.2)
theorem AL.sl {h : Hp} {b zb : Nat} {zs : List (Bool × Nat)} {sp : Nat} (x : AL h b zb zs sp) : hcell h ⟨b, 0, none⟩ = some (.slice (some ⟨zb, 0, none⟩) zs.length zs.length) := by
  obtain ⟨t, ht⟩ := x.box; rw [hcell_blk ht]; rfl
theorem AL.sp {h : Hp} {b zb : Nat} {zs : List (Bool × Nat)} {sp : Nat} (x : AL h b zb zs sp) : hcell h ((⟨b, 0, none⟩ : Addr).add 1) = some (.int .i64 (sp : Int)) := by
  obtain ⟨t, ht⟩ := x.box; rw [add_none, hcell_blk ht]; rfl
theorem AL.tk {h : Hp} {b zb : Nat} {zs : List (Bool × Nat)} {sp : Nat} (x : AL h b zb zs sp) {i : Nat} (hi : i < zs.length) : hcell h ((⟨zb, 0, none⟩ : Addr).add ((i : Int).toNat * 2)) = some (.bool (tk zs i)) := by
  obtain ⟨t, ht⟩ := x.zn; rw [add_none, hcell_blk ht, tk_get hi]; simp [cellsZ_even, hi]
theorem AL.wr {h : Hp} {b zb : Nat} {zs : List (Bool × Nat)} {sp : Nat} (x : AL h b zb zs sp) {i : Nat} (hi : i < zs.length) : hcell h (((⟨zb, 0, none⟩ : Addr).add ((i : Int).toNat * 2)).add 1) = some (.int .i64 (wr zs i : Int)) := by
  obtain ⟨t, ht⟩ := x.zn; rw [add_none, add_none, hcell_blk ht, wr_get hi]; simp [cellsZ_odd, hi]
theorem AL.setT {h : Hp} {b zb : Nat} {zs : List (Bool × Nat)} {sp : Nat} (x : AL h b zb zs sp) {i : Nat} (hi : i < zs.length) (v : Bool) :
    StOk h ((⟨zb, 0, none⟩ : Addr).add ((i : Int).toNat * 2)) ∧ AL (hset h ((⟨zb, 0, none⟩ : Addr).add ((i : Int).toNat * 2)) (.bool v)) b zb (zs.set i (v, Go.Proofs.Ytmnkafplmbngnaa.wr zs i)) sp ∧ Only zb h (hset h ((⟨zb, 0, none⟩ : Addr).add ((i : Int).toNat * 2)) (.bool v)) := by
  obtain ⟨t, ht⟩ := x.zn; obtain ⟨e, he⟩ := x.box
  have hc := x.tk hi
  refine ⟨⟨by rw [hc]; rfl, by rw [add_none]; exact hfroz_blk ht _⟩, ⟨x.ne, ⟨e, ?_⟩, ⟨t, ?_⟩⟩, ((Ext.refl h).only zb).hset (add_block _ _) _⟩
  · rw [hset_other _ _ _ (by rw [add_block]; exact x.ne), he]; simp
  · rw [add_none, hset_blk ht, wr_get hi, ← cellsZ_setE zs i hi]; simp
theorem AL.setW {h : Hp} {b zb : Nat} {zs : List (Bool × Nat)} {sp : Nat} (x : AL h b zb zs sp) {i : Nat} (hi : i < zs.length) (v : Nat) :
    StOk h (((⟨zb, 0, none⟩ : Addr).add ((i : Int).toNat * 2)).add 1) ∧ AL (hset h (((⟨zb, 0, none⟩ : Addr).add ((i : Int).toNat * 2)).add 1) (.int .i64 (v : Int))) b zb (zs.set i (Go.Proofs.Ytmnkafplmbngnaa.tk zs i, v)) sp ∧ Only zb h (hset h (((⟨zb, 0, none⟩ : Addr).add ((i : Int).toNat * 2)).add 1) (.int .i64 (v : Int))) := by
  obtain ⟨t, ht⟩ := x.zn; obtain ⟨e, he⟩ := x.box
  have hc := x.wr hi
  refine ⟨⟨by rw [hc]; rfl, by rw [add_none, add_none]; exact hfroz_blk ht _⟩, ⟨x.ne, ⟨e, ?_⟩, ⟨t, ?_⟩⟩, ((Ext.refl h).only zb).hset (by rw [add_block, add_block]) _⟩
  · rw [hset_other _ _ _ (by rw [add_block, add_block]; exact x.ne), he]; simp
  · rw [add_none, add_none, hset_blk ht, tk_get hi, ← cellsZ_setO zs i hi]; simp

/-! ### The calls -/
theorem List_spec {h : Hp} {b zb : Nat} {zs : List (Bool × Nat)} {sp : Nat} (x : AL h b zb zs sp) (h64 : zs.length ≤ 64) :
    HCalls Try.prog fn_alloc_Alloc_List #[.pointer (some ⟨b, 0, none⟩)] h fun r h' => ∃ s : Sl, r = .slice s.base s.len s.cap ∧ Own h.size 1 h' s ((freeL zs).map iv) ∧ s.len = (freeL zs).length ∧ Ext h h' := by
  apply alloc_Alloc_List_vc
  unfold vcalloc_Alloc_List
  refine IfB.no rfl ⟨_, rfl, ⟨some ⟨zb, 0, none⟩, zs.length, zs.length⟩, x.sl, ?_⟩
  refine ⟨fun out i m h' => ∃ k : Nat, i = k ∧ m + k = zs.length ∧ Ext h h' ∧ Own h.size 1 h' out ((freeUp zs k).map iv), zs.length, ⟨0, rfl, rfl, .refl h, by simpa [freeUp] using Own.nil h.size 1 h⟩, ?_⟩
  rintro _ out _ m h1 ⟨k, rfl, hm, e1, ob⟩
  have hbl := ob.len
  have hfl := freeUp_le zs k
  rw [List.length_map] at hbl
  refine IfB.dec (fun hlt => ?_) (fun hge => ?_)
  · have hk : k < zs.length := by simp only at hlt; omega
    refine ⟨_, rfl, by omega, hlt, _, _, (x.ext e1).tk hk, (x.ext e1).wr hk, ?_⟩
    intro h2
    refine cp2 rfl rfl fun h3 e3 s3 c0 c1 => ⟨_, c0, ?_⟩
    have nx : iAdd .i64 (k : Int) (1 : Int) = ((k + 1 : Nat) : Int) := by rw [iAdd64 (by omega)]; push_cast; rfl
    refine IfB.not ?_
    constructor
    · intro ht
      refine ⟨m - 1, by omega, k + 1, nx, by omega, e1.trans e3, ?_⟩
      rw [freeUp_succ, ht]; simpa using ob.ext e3
    · intro ht
      refine AppC_new (lo := h.size) (l := (freeUp zs k).map iv) (news := [iv k]) (n := 1) rfl (ob.ext e3) (e1.trans e3).size rfl (by simp [iv, cellOk]) (by omega) (by omega) fun r h4 o4 l4 k4 _ => ?_
      refine ⟨m - 1, by omega, k + 1, nx, by omega, ((e1.trans e3).toKeep.trans k4).ext, ?_⟩
      rw [freeUp_succ, ht]; simpa using o4
  · have hk : k = zs.length := by simp only at hge; omega
    subst hk
    exact ⟨out, rfl, ob, by unfold freeL; omega, e1⟩
theorem Count_spec {h : Hp} {b zb : Nat} {zs : List (Bool × Nat)} {sp : Nat} (x : AL h b zb zs sp) (h64 : zs.length ≤ 64) :
    HCalls Try.prog fn_alloc_Alloc_Count #[.pointer (some ⟨b, 0, none⟩)] h fun r h' => r = .int .i64 ((freeL zs).length : Int) ∧ Ext h h' := by
  apply alloc_Alloc_Count_vc
  unfold vcalloc_Alloc_Count
  refine (List_spec x h64).mono ?_
  rintro _ h1 ⟨s, rfl, o, l, e⟩
  exact ⟨s, rfl, by rw [l], e⟩
theorem New_spec {zones spare : Nat} (h1 : 1 ≤ zones) (h2 : zones ≤ 64) (h3 : spare ≤ zones) (h : Hp) :
    HCalls Try.prog fn_alloc_New #[.int .i64 (zones : Int), .int .i64 (spare : Int)] h fun r h' => r = .tuple #[.pointer (some ⟨h.size + 1, 0, none⟩), .int .i64 0] ∧ AL h' (h.size + 1) h.size (List.replicate zones (false, 0)) spare ∧ Ext h h' := by
  apply alloc_New_vc
  unfold vcalloc_New
  refine IfB.dec (fun _ => by omega) (fun _ => IfB.dec (fun _ => by omega) (fun _ => IfB.dec (fun _ => by omega) (fun _ => IfB.dec (fun _ => by omega) (fun _ => ?_))))
  refine ⟨by omega, by omega, by omega, by omega, ?_⟩
  dsimp -zeta only
  intro h5
  have hz : Builtin.zeroCells #[.bool false, .int .i64 (0 : Int)] (zones : Int).toNat = (cellsZ (List.replicate zones (false, 0))).toArray := by
    apply Array.ext_getElem?
    intro i
    simp only [Builtin.zeroCells, List.size_toArray, List.length_cons, List.length_nil, Int.toNat_natCast]
    have hR : (cellsZ (List.replicate zones (false, 0))).toArray[i]? = (cellsZ (List.replicate zones (false, 0)))[i]? := by simp
    rw [hR]
    rcases Nat.mod_two_eq_zero_or_one i with hm | hm
    · obtain ⟨j, rfl⟩ : ∃ j, i = j * 2 := ⟨i / 2, by omega⟩
      rw [cellsZ_even]
      by_cases hj : j < zones
      · simp [hj]
      · simp [hj]
    · obtain ⟨j, rfl⟩ : ∃ j, i = j * 2 + 1 := ⟨i / 2, by omega⟩
      rw [cellsZ_odd]
      by_cases hj : j < zones
      · have : j * 2 + 1 < zones * 2 := by omega
        simp [hj, this]
      · have : ¬ j * 2 + 1 < zones * 2 := by omega
        simp [hj, this]
  have e1 : h5 = alc (alc h (cellsZ (List.replicate zones (false, 0))) 55) [.slice (some ⟨h.size, 0, none⟩) zones zones, .int .i64 (spare : Int)] 53 := by
    show (h.push _).push _ = _
    rw [hz]; rfl
  have s1 := size_alc h (cellsZ (List.replicate zones (false, 0))) 55
  refine ⟨?_, ?_, ?_⟩
  · have : (h.push (.cells (Builtin.zeroCells #[.bool false, .int .i64 (0 : Int)] (zones : Int).toNat) 55 (0, 0))).size = h.size + 1 := by simp
    unfold nw; rw [this]
  · rw [e1]
    refine ⟨by omega, ⟨53, ?_⟩, ⟨55, ?_⟩⟩
    · have := alc_new (alc h (cellsZ (List.replicate zones (false, 0))) 55) [.slice (some ⟨h.size, 0, none⟩) zones zones, .int .i64 (spare : Int)] 53
      rw [s1] at this; simpa using this
    · rw [alc_old _ _ _ (by omega)]; exact alc_new _ _ _
  · rw [e1]; exact (alc_ext _ _ _).trans (alc_ext _ _ _)
theorem NewNo_spec {zones spare : Int} (hn : ¬ (1 ≤ zones ∧ zones ≤ 64 ∧ 0 ≤ spare ∧ spare ≤ zones)) (h : Hp) :
    HCalls Try.prog fn_alloc_New #[.int .i64 zones, .int .i64 spare] h fun r h' => r = .tuple #[.pointer none, .int .i64 1] ∧ h' = h := by
  apply alloc_New_vc
  unfold vcalloc_New
  exact IfB.dec (fun _ => ⟨rfl, rfl⟩) (fun _ => IfB.dec (fun _ => ⟨rfl, rfl⟩) (fun _ => IfB.dec (fun _ => ⟨rfl, rfl⟩) (fun _ => IfB.dec (fun _ => ⟨rfl, rfl⟩) (fun _ => by omega))))
/-- 'Take'. -/
def TakeR (h : Hp) (b zb : Nat) (zs : List (Bool × Nat)) (sp : Nat) (reserve : Bool) (r : Value) (h' : Hp) : Prop :=
  ((freeL zs).length = 0 ∨ (reserve = false ∧ (freeL zs).length ≤ sp)) ∧ r = .tuple #[.int .i64 0, .int .i64 9] ∧ Ext h h' ∨
  ((freeL zs).length ≠ 0 ∧ ¬ (reserve = false ∧ (freeL zs).length ≤ sp)) ∧ ∃ k : Nat, Least zs zs.length k ∧ r = .tuple #[.int .i64 (k : Int), .int .i64 0] ∧ AL h' b zb (zs.set k (true, wr zs k)) sp ∧ Only zb h h'
theorem Take_loop {h : Hp} {b zb : Nat} {zs : List (Bool × Nat)} {sp : Nat} (x : AL h b zb zs sp) (h64 : zs.length ≤ 64) (hne : (freeL zs).length ≠ 0) {R : Value → Hp → Prop}
    (hR : ∀ (k : Nat) (h' : Hp), Least zs zs.length k → AL h' b zb (zs.set k (true, wr zs k)) sp → Only zb h h' → R (.tuple #[.int .i64 (k : Int), .int .i64 0]) h') :
    ∃ a2 : Addr, (some ⟨b, 0, none⟩ : Option Addr) = some a2 ∧
        ∃ c3 : Sl, hcell h a2 = some (.slice c3.base c3.len c3.cap) ∧
        ∃ (vI : Int → Int → Nat → Hp → Prop) (n : Nat), vI (-1 : Int) (0 : Int) n h ∧
        ∀ _junk : Nat → Value, ∀ best : Int, ∀ t30 : Int, ∀ (n1 : Nat) (vh2 : Hp), vI best t30 n1 vh2 →
        IfB (decide (t30 < (c3.len : Int))) (∃ a3 : Addr, c3.base = some a3 ∧ 0 ≤ t30 ∧ t30 < (c3.len : Int) ∧
          ∃ c4 : Bool, ∃ c5 : Int, hcell vh2 ((a3.add ((t30).toNat * 2))) = some (.bool c4) ∧ hcell vh2 ((a3.add ((t30).toNat * 2)).add 1) = some (.int .i64 c5) ∧
          let vh3 := alc vh2 [.bool false, .int .i64 (0 : Int)] 55;
          stCells (nw vh2) 0 [.bool c4, .int .i64 c5] vh3 fun vh4 =>
          ∃ c6 : Bool, hcell vh4 (nw vh2) = some (.bool c6) ∧
          IfB c6 (∃ n2, n2 < n1 ∧ vI best (iAdd .i64 t30 (1 : Int)) n2 vh4)
          (IfB (decide (best ≥ (0 : Int))) (∃ c7 : Int, hcell vh4 ((nw vh2).add 1) = some (.int .i64 c7) ∧
              ∃ a4 : Addr, (some ⟨b, 0, none⟩ : Option Addr) = some a4 ∧
              ∃ c8 : Sl, hcell vh4 a4 = some (.slice c8.base c8.len c8.cap) ∧
              ∃ a5 : Addr, c8.base = some a5 ∧ 0 ≤ best ∧ best < (c8.len : Int) ∧
              ∃ c9 : Int, hcell vh4 ((a5.add ((best).toNat * 2)).add 1) = some (.int .i64 c9) ∧
              IfB (decide (c7 ≥ c9)) (∃ n2, n2 < n1 ∧ vI best (iAdd .i64 t30 (1 : Int)) n2 vh4)
              (∃ n2, n2 < n1 ∧ vI t30 (iAdd .i64 t30 (1 : Int)) n2 vh4))
            (∃ n2, n2 < n1 ∧ vI t30 (iAdd .i64 t30 (1 : Int)) n2 vh4)))
        (∃ a6 : Addr, (some ⟨b, 0, none⟩ : Option Addr) = some a6 ∧
          ∃ c10 : Sl, hcell vh2 a6 = some (.slice c10.base c10.len c10.cap) ∧
          ∃ a7 : Addr, c10.base = some a7 ∧ 0 ≤ best ∧ best < (c10.len : Int) ∧
          StOk vh2 (a7.add ((best).toNat * 2)) ∧
          let vh5 := hset vh2 (a7.add ((best).toNat * 2)) (.bool true);
          R (.tuple #[.int .i64 best, .int .i64 (0 : Int)]) vh5) := by
  refine ⟨_, rfl, ⟨some ⟨zb, 0, none⟩, zs.length, zs.length⟩, x.sl, ?_⟩
  refine ⟨fun best i m h' => ∃ k : Nat, i = k ∧ m + k = zs.length ∧ Ext h h' ∧ BestP zs k best, zs.length, ⟨0, rfl, rfl, .refl h, .inl ⟨rfl, fun i hi => by omega⟩⟩, ?_⟩
  rintro _ best _ m h2 ⟨k, rfl, hm, e2, hb⟩
  have x2 := x.ext e2
  refine IfB.dec (fun hlt => ?_) (fun hge => ?_)
  · have hk : k < zs.length := by simp only at hlt; omega
    refine ⟨_, rfl, by omega, hlt, _, _, x2.tk hk, x2.wr hk, ?_⟩
    intro h3
    refine cp2 rfl rfl fun h4 e4 s4 c0 c1 => ⟨_, c0, ?_⟩
    have x4 := x2.ext e4
    have nx : iAdd .i64 (k : Int) (1 : Int) = ((k + 1 : Nat) : Int) := by rw [iAdd64 (by omega)]; push_cast; rfl
    refine IfB.intro (fun ht => ?_) (fun ht => ?_)
    · exact ⟨m - 1, by omega, k + 1, nx, by omega, e2.trans e4, hb.taken ht⟩
    · refine IfB.dec (fun hge0 => ?_) (fun hlt0 => ?_)
      · rcases hb with ⟨rfl, _⟩ | ⟨bb, rfl, hl⟩
        · omega
        have hbb : bb < zs.length := Nat.lt_trans hl.lt hk
        refine ⟨_, c1, _, rfl, ⟨some ⟨zb, 0, none⟩, zs.length, zs.length⟩, x4.sl, _, rfl, by omega, by simp only; omega, _, x4.wr hbb, ?_⟩
        refine IfB.dec (fun hc => ?_) (fun hc => ?_)
        · exact ⟨m - 1, by omega, k + 1, nx, by omega, e2.trans e4, .keep hl (by omega)⟩
        · exact ⟨m - 1, by omega, k + 1, nx, by omega, e2.trans e4, .new hl ht (by omega)⟩
      · rcases hb with ⟨rfl, hall⟩ | ⟨bb, rfl, hl⟩
        · exact ⟨m - 1, by omega, k + 1, nx, by omega, e2.trans e4, .one hall ht⟩
        · omega
  · have hk : k = zs.length := by simp only at hge; omega
    subst hk
    rcases hb with ⟨rfl, hall⟩ | ⟨bb, rfl, hl⟩
    · obtain ⟨i, hi, hf⟩ := freeL_pos hne
      rw [hall i hi] at hf; cases hf
    · obtain ⟨ok, x3, o3⟩ := x2.setT hl.lt true
      exact ⟨_, rfl, ⟨some ⟨zb, 0, none⟩, zs.length, zs.length⟩, x2.sl, _, rfl, by omega, by have := hl.lt; simp only; omega, ok, hR bb _ hl x3 ((e2.only zb).trans o3)⟩
theorem Take_spec {h : Hp} {b zb : Nat} {zs : List (Bool × Nat)} {sp : Nat} (x : AL h b zb zs sp) (h64 : zs.length ≤ 64) (reserve : Bool) :
    HCalls Try.prog fn_alloc_Alloc_Take #[.pointer (some ⟨b, 0, none⟩), .bool reserve] h (TakeR h b zb zs sp reserve) := by
  apply alloc_Alloc_Take_vc
  unfold vcalloc_Alloc_Take
  refine (Count_spec x h64).mono ?_
  rintro _ h1 ⟨rfl, e1⟩
  refine ⟨_, rfl, e1, IfB.eq (fun h0 => .inl ⟨.inl (by omega), rfl, e1⟩) (fun hne => ?_)⟩
  have hne' : (freeL zs).length ≠ 0 := by omega
  refine IfB.not ?_
  constructor
  · intro hres
    subst hres
    refine Take_loop (x.ext e1) h64 hne' fun k h' hl x' o' => .inr ⟨⟨hne', by simp⟩, k, hl, rfl, x', (e1.only zb).trans o'⟩
  · intro hres
    subst hres
    refine ⟨_, rfl, _, x.sp, ?_⟩
    refine (Count_spec (x.ext e1) h64).mono ?_
    rintro _ h2 ⟨rfl, e2⟩
    refine ⟨_, rfl, e1.trans e2, IfB.dec (fun hle => .inl ⟨.inr ⟨rfl, by omega⟩, rfl, e1.trans e2⟩) (fun hgt => ?_)⟩
    exact Take_loop (x.ext (e1.trans e2)) h64 hne' fun k h' hl x' o' => .inr ⟨⟨hne', by omega⟩, k, hl, rfl, x', ((e1.trans e2).only zb).trans o'⟩
theorem at_spec {h : Hp} {b zb : Nat} {zs : List (Bool × Nat)} {sp : Nat} (x : AL h b zb zs sp) (i : Int) :
    HCalls Try.prog fn_alloc_Alloc_at #[.pointer (some ⟨b, 0, none⟩), .int .i64 i] h fun r h' => ((i < 0 ∨ (zs.length : Int) ≤ i) ∧ r = .pointer none ∨ ∃ k : Nat, i = k ∧ k < zs.length ∧ r = .pointer (some ((⟨zb, 0, none⟩ : Addr).add ((k : Int).toNat * 2)))) ∧ h' = h := by
  apply alloc_Alloc_at_vc
  unfold vcalloc_Alloc_at
  refine IfB.no rfl (IfB.dec (fun h1 => ⟨.inl ⟨.inl h1, rfl⟩, rfl⟩) (fun h1 => ⟨_, rfl, ⟨some ⟨zb, 0, none⟩, zs.length, zs.length⟩, x.sl, IfB.dec (fun h2 => ⟨.inl ⟨.inr h2, rfl⟩, rfl⟩) (fun h2 => ?_)⟩))
  obtain ⟨k, rfl⟩ : ∃ k : Nat, i = k := ⟨i.toNat, by omega⟩
  simp only at h2
  exact ⟨_, rfl, ⟨some ⟨zb, 0, none⟩, zs.length, zs.length⟩, x.sl, _, rfl, by omega, by simp only; omega, .inr ⟨k, rfl, by omega, rfl⟩, rfl⟩
theorem Free_spec {h : Hp} {b zb : Nat} {zs : List (Bool × Nat)} {sp : Nat} (x : AL h b zb zs sp) (i : Int) (hw : ∀ k : Nat, i = k → wr zs k < 9223372036854775807) :
    HCalls Try.prog fn_alloc_Alloc_Free #[.pointer (some ⟨b, 0, none⟩), .int .i64 i] h fun r h' =>
      ((i < 0 ∨ (zs.length : Int) ≤ i) ∧ r = .int .i64 1 ∧ h' = h) ∨ ∃ k : Nat, i = k ∧ k < zs.length ∧ ((tk zs k = false ∧ r = .int .i64 14 ∧ h' = h) ∨ (tk zs k = true ∧ r = .int .i64 0 ∧ AL h' b zb (zs.set k (false, wr zs k + 1)) sp ∧ Only zb h h')) := by
  apply alloc_Alloc_Free_vc
  unfold vcalloc_Alloc_Free
  refine (at_spec x i).mono ?_
  rintro _ _ ⟨⟨h1, rfl⟩ | ⟨k, rfl, hk, rfl⟩, rfl⟩
  · exact ⟨_, rfl, .yes rfl (.inl ⟨h1, rfl, rfl⟩)⟩
  · refine ⟨_, rfl, .no rfl ⟨_, rfl, _, x.tk hk, ?_⟩⟩
    refine IfB.not (IfB.intro (fun ht => ?_) (fun ht => .inr ⟨k, rfl, hk, .inl ⟨ht, rfl, rfl⟩⟩))
    obtain ⟨ok1, x1, o1⟩ := x.setT hk false
    have hk1 : k < (zs.set k (false, wr zs k)).length := by simpa using hk
    obtain ⟨ok2, x2, o2⟩ := x1.setW hk1 (wr zs k + 1)
    have hwk := hw k rfl
    refine ⟨_, rfl, ok1, _, rfl, _, x1.wr hk1, _, rfl, ok2, ?_⟩
    have ew : wr (zs.set k (false, wr zs k)) k = wr zs k := by rw [wr_set hk, if_pos rfl]
    have et : tk (zs.set k (false, wr zs k)) k = false := by rw [tk_set hk, if_pos rfl]
    rw [et] at x2
    have ei : iAdd .i64 (wr (zs.set k (false, wr zs k)) k : Int) (1 : Int) = ((wr zs k + 1 : Nat) : Int) := by rw [ew, iAdd64 (by omega)]; push_cast; rfl
    rw [ei]
    rw [List.set_set] at x2
    exact .inr ⟨k, rfl, hk, .inr ⟨ht, rfl, x2, o1.trans o2⟩⟩
theorem Free_one {h : Hp} {b zb : Nat} {zs : List (Bool × Nat)} {sp : Nat} (x : AL h b zb zs sp) {k : Nat} (hk : k < zs.length) (ht : tk zs k = true) (hw : wr zs k < 9223372036854775807) :
    HCalls Try.prog fn_alloc_Alloc_Free #[.pointer (some ⟨b, 0, none⟩), .int .i64 (k : Int)] h fun r h' => r = .int .i64 0 ∧ AL h' b zb (zs.set k (false, wr zs k + 1)) sp ∧ Only zb h h' := by
  refine (Free_spec x (k : Int) (fun j hj => by obtain rfl : k = j := (by omega); exact hw)).mono ?_
  rintro _ h8 (⟨hc, _⟩ | ⟨j, hj, _, hcase⟩)
  · omega
  obtain rfl : k = j := by omega
  rcases hcase with ⟨hc, _⟩ | ⟨_, rfl, x8, o8⟩
  · rw [ht] at hc; cases hc
  · exact ⟨rfl, x8, o8⟩
theorem Mark_spec {h : Hp} {b zb : Nat} {zs : List (Bool × Nat)} {sp : Nat} (x : AL h b zb zs sp) (i : Int) :
    HCalls Try.prog fn_alloc_Alloc_Mark #[.pointer (some ⟨b, 0, none⟩), .int .i64 i] h fun r h' =>
      ((i < 0 ∨ (zs.length : Int) ≤ i) ∧ r = .int .i64 1 ∧ h' = h) ∨ ∃ k : Nat, i = k ∧ k < zs.length ∧ ((tk zs k = true ∧ r = .int .i64 14 ∧ h' = h) ∨ (tk zs k = false ∧ r = .int .i64 0 ∧ AL h' b zb (zs.set k (true, wr zs k)) sp ∧ Only zb h h')) := by
  apply alloc_Alloc_Mark_vc
  unfold vcalloc_Alloc_Mark
  refine (at_spec x i).mono ?_
  rintro _ _ ⟨⟨h1, rfl⟩ | ⟨k, rfl, hk, rfl⟩, rfl⟩
  · exact ⟨_, rfl, .yes rfl (.inl ⟨h1, rfl, rfl⟩)⟩
  · refine ⟨_, rfl, .no rfl ⟨_, rfl, _, x.tk hk, ?_⟩⟩
    refine IfB.intro (fun ht => .inr ⟨k, rfl, hk, .inl ⟨ht, rfl, rfl⟩⟩) (fun ht => ?_)
    obtain ⟨ok1, x1, o1⟩ := x.setT hk true
    exact ⟨_, rfl, ok1, .inr ⟨k, rfl, hk, .inr ⟨ht, rfl, x1, o1⟩⟩⟩
theorem Wear_spec {h : Hp} {b zb : Nat} {zs : List (Bool × Nat)} {sp : Nat} (x : AL h b zb zs sp) (i : Int) :
    HCalls Try.prog fn_alloc_Alloc_Wear #[.pointer (some ⟨b, 0, none⟩), .int .i64 i] h fun r h' =>
      ((i < 0 ∨ (zs.length : Int) ≤ i) ∧ r = .int .i64 0 ∨ ∃ k : Nat, i = k ∧ k < zs.length ∧ r = .int .i64 (wr zs k : Int)) ∧ h' = h := by
  apply alloc_Alloc_Wear_vc
  unfold vcalloc_Alloc_Wear
  refine (at_spec x i).mono ?_
  rintro _ _ ⟨⟨h1, rfl⟩ | ⟨k, rfl, hk, rfl⟩, rfl⟩
  · exact ⟨_, rfl, .yes rfl ⟨.inl ⟨h1, rfl⟩, rfl⟩⟩
  · exact ⟨_, rfl, .no rfl ⟨_, rfl, _, x.wr hk, .inr ⟨k, rfl, hk, rfl⟩, rfl⟩⟩

end Go.Proofs.Ytmnkafplmbngnaa
