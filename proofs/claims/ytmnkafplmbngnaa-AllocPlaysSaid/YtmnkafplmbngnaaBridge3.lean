/-
  A slice of pairs of numbers that came in.
-/
import Derived.Test.YtmnkafplmbngnaaBridge
import Derived.Deep.Slices
namespace Go.Proofs.Ytmnkafplmbngnaa
set_option linter.unusedVariables false
set_option linter.unusedSimpArgs false
open Go.ChangeShapes Go.WideShapes Go.ChangeAt Go.RowKit

structure InP (h : Hp) (s : Sl) (l : List (Int × Int)) : Prop where
  len : l.length = s.len
  cap : s.len ≤ s.cap
  max : s.cap ≤ maxLen
  rd : ∀ (i : Nat) (hi : i < l.length), ∃ a, s.base = some a ∧ hcell h (a.add (i * 2)) = some (.int .i64 l[i].1) ∧ hcell h ((a.add (i * 2)).add 1) = some (.int .i64 l[i].2)
  wf : ∀ p ∈ l, (Lit.int .i64 p.1).wf = true ∧ (Lit.int .i64 p.2).wf = true
theorem in_pairs {H : Type} {enc : TypeId × Value → H} {P : Program} {w : World} {base : Nat} {t e ti : TypeId} {fs : Array Field} {v : Value} {d : DataW H} {ps : List MemPlace} {r : Reach} {b0 : Nat}
    (ht : P.underlying t = some (.slice e)) (he : P.underlying e = some (.struct fs)) (hf0 : (fs[0]?).map (fun f => (f.type, f.offset)) = some (ti, 0)) (hf1 : (fs[1]?).map (fun f => (f.type, f.offset)) = some (ti, 1)) (hfs : fs.size = 2)
    (hi : P.underlying ti = some (.int .i64)) (hc : P.cellsOf e = 2) (hc1 : P.cellsOf ti = 1) (hval : Value.okWide P w r b0 t v)
    (hj : DataW.Trod enc P w base (fun _ => true) true t v d ps) : ∃ (s : Sl) (l : List (Int × Int)), v = .slice s.base s.len s.cap ∧ InP w.heap s l := by
  obtain ⟨a, len, cap, rfl⟩ := WideShapes.okWide_slice ht hval
  obtain ⟨fuel, hfu⟩ := hj
  refine ⟨⟨a, len, cap⟩, ?_⟩
  rcases Deep.open_slice ht hfu with ⟨hcs, _⟩ | ⟨x, ln, cp, m, n, D, Pl, hcs, _, hl, hm, hmm, _, hx⟩
  · simp [Value.cells] at hcs
    obtain ⟨rfl, rfl, rfl⟩ := hcs
    exact ⟨[], rfl, rfl, by simp, by simp [maxLen], fun i hi => by simp at hi, by simp⟩
  · simp [Value.cells] at hcs
    obtain ⟨rfl, rfl, rfl⟩ := hcs
    have hm' : m = cap := by simpa using hmm
    obtain ⟨f0, h0, h0'⟩ := Option.map_eq_some_iff.1 hf0
    obtain ⟨f1, h1, h1'⟩ := Option.map_eq_some_iff.1 hf1
    simp only [Prod.mk.injEq] at h0' h1'
    obtain ⟨g, hg⟩ := Deep.choose_lt (α := Int × Int) (n := len) (p := fun i p => hcell w.heap (x.add (i * 2)) = some (.int .i64 p.1) ∧ hcell w.heap ((x.add (i * 2)).add 1) = some (.int .i64 p.2) ∧ (Lit.int .i64 p.1).wf = true ∧ (Lit.int .i64 p.2).wf = true) (fun i hi' => by
      obtain ⟨cs, hcs, htr⟩ := hx i (by omega)
      rw [hc] at hcs
      obtain ⟨_, hlen, hget⟩ := World.cells?_some hcs
      obtain ⟨xs, n', _, _, _, hxl, hxs⟩ := DataW.trod_struct he htr
      rw [hfs] at hxl
      have t0 := hxs 0 f0 h0
      have t1 := hxs 1 f1 h1
      rw [h0'.1, h0'.2, hc1, List.getElem?_eq_getElem (by omega)] at t0
      rw [h1'.1, h1'.2, hc1, List.getElem?_eq_getElem (by omega)] at t1
      match cs, hlen with
      | [c0, c1], _ =>
        obtain ⟨p, hp, _, wp⟩ := DataW.trod_int hi t0
        obtain ⟨q, hq, _, wq⟩ := DataW.trod_int hi t1
        simp only [List.drop_zero, List.take_succ_cons, List.take_zero, List.cons.injEq, and_true, List.drop_succ_cons] at hp hq
        subst hp hq
        have g0 := hget 0 (by omega)
        have g1 := hget 1 (by omega)
        rw [hcell_heap] at g0 g1
        refine ⟨(p, q), ?_, ?_, wp, wq⟩
        · have : (x.add (i * 2)).add 0 = x.add (i * 2) := by rw [add_add]; rfl
          rw [this] at g0; rw [g0]; rfl
        · rw [g1]; rfl)
    refine ⟨(List.range len).map g, rfl, by simp, hl, hm, ?_, ?_⟩
    · intro i hi'
      simp only [List.length_map, List.length_range] at hi'
      have := hg i hi'
      exact ⟨x, rfl, by simpa using this.1, by simpa using this.2.1⟩
    · intro p hp
      obtain ⟨i, hi', rfl⟩ := List.mem_map.1 hp
      exact (hg i (by simpa using hi')).2.2
/-- reading one. -/
theorem InP.ix {h h0 : Hp} {s : Sl} {l : List (Int × Int)} (w : InP h0 s l) (e : Ext h0 h) (j : Nat) (hj : j < l.length) :
    ∃ a : Addr, s.base = some a ∧ 0 ≤ (j : Int) ∧ (j : Int) < (s.len : Int) ∧ hcell h (a.add ((j : Int).toNat * 2)) = some (.int .i64 l[j].1) ∧ hcell h ((a.add ((j : Int).toNat * 2)).add 1) = some (.int .i64 l[j].2) := by
  obtain ⟨a, ha, h1, h2⟩ := w.rd j hj
  have := w.len
  exact ⟨a, ha, by omega, by omega, e.cell h1, e.cell h2⟩

end Go.Proofs.Ytmnkafplmbngnaa
