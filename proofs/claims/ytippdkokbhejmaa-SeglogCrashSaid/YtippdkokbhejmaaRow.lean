/-
  Blocks that are rows; changes of one block alone.
-/
import Derived.Test.YtippdkokbhejmaaMem
namespace Go.Proofs.Ytippdkokbhejmaa
set_option linter.unusedVariables false
set_option linter.unusedSimpArgs false

theorem blk_lt {h : Hp} {b : Nat} {o : Obj} (e : h[b]? = some o) : b < h.size := (Array.getElem?_eq_some_iff.1 e).1
/-- only one old block is another. -/
structure Only (z : Nat) (h h' : Hp) : Prop where
  size : h.size ≤ h'.size
  block : ∀ b, b < h.size → b ≠ z → h'[b]? = h[b]?
theorem Ext.only {h h' : Hp} (e : Ext h h') (z : Nat) : Only z h h' := ⟨e.size, fun b hb _ => e.block b hb⟩
theorem Only.trans {z : Nat} {a b c : Hp} (h : Only z a b) (g : Only z b c) : Only z a c := ⟨Nat.le_trans h.size g.size, fun k hk hz => (g.block k (Nat.lt_of_lt_of_le hk h.size) hz).trans (h.block k hk hz)⟩
theorem Only.ext {z : Nat} {h0 h h' : Hp} (e : Ext h0 h) (o : Only z h h') (hz : h0.size ≤ z) : Ext h0 h' := ⟨Nat.le_trans e.size o.size, fun b hb => (o.block b (Nat.lt_of_lt_of_le hb e.size) (by omega)).trans (e.block b hb)⟩
theorem Only.hset {z : Nat} {h h' : Hp} (o : Only z h h') {a : Addr} (ha : a.block = z) (v : Value) : Only z h (Go.Proofs.Ytippdkokbhejmaa.hset h' a v) :=
  ⟨by rw [size_hset]; exact o.size, fun b hb hz => by rw [hset_other _ _ _ (by omega)]; exact o.block b hb hz⟩

/-- a block that is a row. -/
def Row (h : Hp) (b : Nat) (l : List Value) : Prop := ∃ e, h[b]? = some (.cells l.toArray e (0, 0))
theorem Row.eq {h h' : Hp} {b : Nat} {l : List Value} (x : Row h b l) (e : h'[b]? = h[b]?) : Row h' b l := by
  obtain ⟨t, ht⟩ := x; exact ⟨t, by rw [e, ht]⟩
theorem Row.lt {h : Hp} {b : Nat} {l : List Value} (x : Row h b l) : b < h.size := by obtain ⟨t, ht⟩ := x; exact blk_lt ht
theorem Row.get {h : Hp} {b : Nat} {l : List Value} (x : Row h b l) {i : Nat} {v : Value} (hv : l[i]? = some v) : hcell h ((⟨b, 0, none⟩ : Addr).add i) = some v := by
  obtain ⟨t, ht⟩ := x; rw [add_none, hcell_blk ht]; simpa using hv
theorem Row.set {h : Hp} {b : Nat} {l : List Value} (x : Row h b l) {i : Nat} (hi : i < l.length) (v : Value) :
    StOk h ((⟨b, 0, none⟩ : Addr).add i) ∧ Row (hset h ((⟨b, 0, none⟩ : Addr).add i) v) b (l.set i v) ∧ (∀ k, k ≠ b → (hset h ((⟨b, 0, none⟩ : Addr).add i) v)[k]? = h[k]?) ∧ (hset h ((⟨b, 0, none⟩ : Addr).add i) v).size = h.size := by
  obtain ⟨t, ht⟩ := x
  refine ⟨⟨?_, ?_⟩, ⟨t, ?_⟩, fun k hk => hset_other _ _ _ (by rw [add_block]; exact hk), size_hset _ _ _⟩
  · rw [add_none, hcell_blk ht]; simp [hi]
  · rw [add_none]; exact hfroz_blk ht _
  · rw [add_none, hset_blk ht]; simp
theorem Row.alc (h : Hp) (l : List Value) (t : Nat) : Row (alc h l t) h.size l := ⟨t, alc_new h l t⟩
/-- a block, written whole. -/
theorem Row.put {h : Hp} {b : Nat} {l : List Value} (x : Row h b l) {vs : List Value} (hl : vs.length = l.length) (hok : ∀ v ∈ vs, cellOk v = true) {K : Hp → Prop}
    (hK : ∀ h', Row h' b vs → h'.size = h.size → (∀ k, k ≠ b → h'[k]? = h[k]?) → K h') : stCells ⟨b, 0, none⟩ 0 vs h K := by
  obtain ⟨t, ht⟩ := x
  refine stCells_row vs 0 0 h _ ht (by simp [hl]) hok ?_
  intro h' c' h1 h2 h3 h4 h5
  refine hK h' ⟨t, ?_⟩ h2 h3
  rw [h1]
  congr 2
  apply Array.ext_getElem?
  intro j
  rw [h5 j]
  by_cases hj : j < vs.length
  · rw [if_pos (by omega)]; simp
  · rw [if_neg (by omega)]
    rw [List.getElem?_toArray, List.getElem?_toArray, List.getElem?_eq_none (by omega), List.getElem?_eq_none (by omega)]
theorem Row.get0 {h : Hp} {b : Nat} {l : List Value} (x : Row h b l) {v : Value} (hv : l[0]? = some v) : hcell h ⟨b, 0, none⟩ = some v := by
  have := x.get (i := 0) hv; rwa [add_none] at this
theorem Row.ext {h h' : Hp} {b : Nat} {l : List Value} (x : Row h b l) (e : Ext h h') : Row h' b l := x.eq (e.block _ x.lt)
theorem Own.only {lo sz zb : Nat} {h h' : Hp} {s : Sl} {l : List Value} (o : Own lo sz h s l) (y : Only zb h h') (hz : zb < lo) : Own lo sz h' s l :=
  o.eq fun a ha => y.block _ (o.lt ha).2 (by have := (o.lt ha).1; omega)

end Go.Proofs.Ytippdkokbhejmaa
