/-
  A slice of four numbers each that came in.
-/
import Derived.Test.YtippdkokbhejmaaBridge
import Derived.Deep.Slices
namespace Go.Proofs.Ytippdkokbhejmaa
set_option linter.unusedVariables false
set_option linter.unusedSimpArgs false
open Go.ChangeShapes Go.WideShapes Go.ChangeAt Go.RowKit

structure Q4 where
  a : Int
  b : Int
  c : Int
  d : Int
instance : Inhabited Q4 := ⟨⟨0, 0, 0, 0⟩⟩
structure InQ (h : Hp) (s : Sl) (l : List Q4) : Prop where
  len : l.length = s.len
  cap : s.len ≤ s.cap
  max : s.cap ≤ maxLen
  rd : ∀ (i : Nat) (hi : i < l.length), ∃ a, s.base = some a ∧ hcell h (a.add (i * 4)) = some (.int .i64 l[i].a) ∧ hcell h ((a.add (i * 4)).add 1) = some (.int .i64 l[i].b) ∧ hcell h ((a.add (i * 4)).add 2) = some (.int .i64 l[i].c) ∧ hcell h ((a.add (i * 4)).add 3) = some (.int .i64 l[i].d)
theorem in_quads {H : Type} {enc : TypeId × Value → H} {P : Program} {w : World} {base : Nat} {t e ti : TypeId} {fs : Array Field} {v : Value} {d : DataW H} {ps : List MemPlace} {r : Reach} {b0 : Nat}
    (ht : P.underlying t = some (.slice e)) (he : P.underlying e = some (.struct fs)) (hf0 : (fs[0]?).map (fun f => (f.type, f.offset)) = some (ti, 0)) (hf1 : (fs[1]?).map (fun f => (f.type, f.offset)) = some (ti, 1)) (hf2 : (fs[2]?).map (fun f => (f.type, f.offset)) = some (ti, 2)) (hf3 : (fs[3]?).map (fun f => (f.type, f.offset)) = some (ti, 3)) (hfs : fs.size = 4)
    (hi : P.underlying ti = some (.int .i64)) (hc : P.cellsOf e = 4) (hc1 : P.cellsOf ti = 1) (hval : Value.okWide P w r b0 t v)
    (hj : DataW.Trod enc P w base (fun _ => true) true t v d ps) : ∃ (s : Sl) (l : List Q4), v = .slice s.base s.len s.cap ∧ InQ w.heap s l := by
  obtain ⟨a, len, cap, rfl⟩ := WideShapes.okWide_slice ht hval
  obtain ⟨fuel, hfu⟩ := hj
  refine ⟨⟨a, len, cap⟩, ?_⟩
  rcases Deep.open_slice ht hfu with ⟨hcs, _⟩ | ⟨x, ln, cp, m, n, D, Pl, hcs, _, hl, hm, hmm, _, hx⟩
  · simp [Value.cells] at hcs
    obtain ⟨rfl, rfl, rfl⟩ := hcs
    exact ⟨[], rfl, rfl, by simp, by simp [maxLen], fun i hi => by simp at hi⟩
  · simp [Value.cells] at hcs
    obtain ⟨rfl, rfl, rfl⟩ := hcs
    have hm' : m = cap := by simpa using hmm
    obtain ⟨f0, h0, h0'⟩ := Option.map_eq_some_iff.1 hf0
    obtain ⟨f1, h1, h1'⟩ := Option.map_eq_some_iff.1 hf1
    obtain ⟨f2, h2, h2'⟩ := Option.map_eq_some_iff.1 hf2
    obtain ⟨f3, h3, h3'⟩ := Option.map_eq_some_iff.1 hf3
    simp only [Prod.mk.injEq] at h0' h1' h2' h3'
    obtain ⟨g, hg⟩ := Deep.choose_lt (α := Q4) (n := len) (p := fun i p => hcell w.heap (x.add (i * 4)) = some (.int .i64 p.a) ∧ hcell w.heap ((x.add (i * 4)).add 1) = some (.int .i64 p.b) ∧ hcell w.heap ((x.add (i * 4)).add 2) = some (.int .i64 p.c) ∧ hcell w.heap ((x.add (i * 4)).add 3) = some (.int .i64 p.d)) (fun i hi' => by
      obtain ⟨cs, hcs, htr⟩ := hx i (by omega)
      rw [hc] at hcs
      obtain ⟨_, hlen, hget⟩ := World.cells?_some hcs
      obtain ⟨xs, n', _, _, _, hxl, hxs⟩ := DataW.trod_struct he htr
      rw [hfs] at hxl
      have t0 := hxs 0 f0 h0
      have t1 := hxs 1 f1 h1
      have t2 := hxs 2 f2 h2
      have t3 := hxs 3 f3 h3
      rw [h0'.1, h0'.2, hc1, List.getElem?_eq_getElem (by omega)] at t0
      rw [h1'.1, h1'.2, hc1, List.getElem?_eq_getElem (by omega)] at t1
      rw [h2'.1, h2'.2, hc1, List.getElem?_eq_getElem (by omega)] at t2
      rw [h3'.1, h3'.2, hc1, List.getElem?_eq_getElem (by omega)] at t3
      match cs, hlen with
      | [c0, c1, c2, c3], _ =>
        obtain ⟨p0, hp0, _, _⟩ := DataW.trod_int hi t0
        obtain ⟨p1, hp1, _, _⟩ := DataW.trod_int hi t1
        obtain ⟨p2, hp2, _, _⟩ := DataW.trod_int hi t2
        obtain ⟨p3, hp3, _, _⟩ := DataW.trod_int hi t3
        simp only [List.drop_zero, List.take_succ_cons, List.take_zero, List.cons.injEq, and_true, List.drop_succ_cons] at hp0 hp1 hp2 hp3
        subst hp0 hp1 hp2 hp3
        have g0 := hget 0 (by omega)
        have g1 := hget 1 (by omega)
        have g2 := hget 2 (by omega)
        have g3 := hget 3 (by omega)
        rw [hcell_heap] at g0 g1 g2 g3
        refine ⟨⟨p0, p1, p2, p3⟩, ?_, ?_, ?_, ?_⟩
        · have : (x.add (i * 4)).add 0 = x.add (i * 4) := by rw [add_add]; rfl
          rw [this] at g0; rw [g0]; rfl
        · rw [g1]; rfl
        · rw [g2]; rfl
        · rw [g3]; rfl)
    refine ⟨(List.range len).map g, rfl, by simp, hl, hm, ?_⟩
    intro i hi'
    simp only [List.length_map, List.length_range] at hi'
    have := hg i hi'
    exact ⟨x, rfl, by simpa using this.1, by simpa using this.2.1, by simpa using this.2.2.1, by simpa using this.2.2.2⟩
/-- reading one. -/
theorem InQ.ix {h h0 : Hp} {s : Sl} {l : List Q4} (w : InQ h0 s l) (e : Ext h0 h) (j : Nat) (hj : j < l.length) :
    ∃ a : Addr, s.base = some a ∧ 0 ≤ (j : Int) ∧ (j : Int) < (s.len : Int) ∧ hcell h (a.add ((j : Int).toNat * 4)) = some (.int .i64 l[j].a) ∧ hcell h ((a.add ((j : Int).toNat * 4)).add 1) = some (.int .i64 l[j].b) ∧ hcell h ((a.add ((j : Int).toNat * 4)).add 2) = some (.int .i64 l[j].c) ∧ hcell h ((a.add ((j : Int).toNat * 4)).add 3) = some (.int .i64 l[j].d) := by
  obtain ⟨a, ha, h1, h2, h3, h4⟩ := w.rd j hj
  have := w.len
  exact ⟨a, ha, by omega, by omega, e.cell h1, e.cell h2, e.cell h3, e.cell h4⟩

end Go.Proofs.Ytippdkokbhejmaa
