/-
  A block's struct that came in: four numbers and a row of bytes.
-/
import Derived.Test.YtomeglmlhmpbhaaBridge2
namespace Go.Proofs.Ytomeglmlhmpbhaa
set_option linter.unusedVariables false
set_option linter.unusedSimpArgs false
open Go.ChangeShapes Go.WideShapes Go.ChangeAt Go.RowKit

structure Blk5 where
  k : Int
  e : Int
  s : Int
  l : Int
  b : Sl
structure InBlk (h : Hp) (a : Blk5) (bs : List UInt8) : Prop where
  b : InB h a.b bs
  wk : (Lit.int .i64 a.k).wf = true
  we : (Lit.int .i64 a.e).wf = true
  ws : (Lit.int .i64 a.s).wf = true
  wl : (Lit.int .i64 a.l).wf = true
theorem in_blk {H : Type} {enc : TypeId × Value → H} {P : Program} {w : World} {base : Nat} {t ti tb te : TypeId} {f0 f1 f2 f3 f4 : Field} {v : Value} {d : DataW H} {ps : List MemPlace} {r : Reach} {b0 : Nat}
    (ht : P.underlying t = some (.struct #[f0, f1, f2, f3, f4])) (hf0 : (f0.type, f0.offset) = (ti, 0)) (hf1 : (f1.type, f1.offset) = (ti, 1)) (hf2 : (f2.type, f2.offset) = (ti, 2)) (hf3 : (f3.type, f3.offset) = (ti, 3)) (hf4 : (f4.type, f4.offset) = (tb, 4))
    (hi : P.underlying ti = some (.int .i64)) (hb : P.underlying tb = some (.slice te)) (he : P.underlying te = some (.int .u8)) (hc : P.cellsOf t = 5) (hci : P.cellsOf ti = 1) (hcb : P.cellsOf tb = 1) (hce : P.cellsOf te = 1)
    (hval : Value.okWide P w r b0 t v) (hj : DataW.Trod enc P w base (fun _ => true) true t v d ps) :
    ∃ (a : Blk5) (bs : List UInt8), v = .agg #[.int .i64 a.k, .int .i64 a.e, .int .i64 a.s, .int .i64 a.l, .slice a.b.base a.b.len a.b.cap] ∧ InBlk w.heap a bs := by
  obtain ⟨cs, rfl, hcs⟩ := WideShapes.okWide_struct ht hval
  obtain ⟨fuel, hfu⟩ := hj
  have hfu' : DataW.trod enc P w base (fun _ => true) true fuel t cs.toList = some (d, ps) := hfu
  obtain ⟨xs, n', _, _, _, hxl, hxs⟩ := DataW.trod_struct ht hfu'
  have hxl' : xs.length = 5 := hxl
  have hlen : cs.toList.length = 5 := by simpa [hc] using hcs
  have t0 := hxs 0 f0 rfl
  have t1 := hxs 1 f1 rfl
  have t2 := hxs 2 f2 rfl
  have t3 := hxs 3 f3 rfl
  have t4 := hxs 4 f4 rfl
  simp only [Prod.mk.injEq] at hf0 hf1 hf2 hf3 hf4
  rw [hf0.1, hf0.2, hci, List.getElem?_eq_getElem (by omega)] at t0
  rw [hf1.1, hf1.2, hci, List.getElem?_eq_getElem (by omega)] at t1
  rw [hf2.1, hf2.2, hci, List.getElem?_eq_getElem (by omega)] at t2
  rw [hf3.1, hf3.2, hci, List.getElem?_eq_getElem (by omega)] at t3
  rw [hf4.1, hf4.2, hcb, List.getElem?_eq_getElem (by omega)] at t4
  obtain ⟨c, rfl⟩ : ∃ l : List Value, cs = l.toArray := ⟨cs.toList, by simp⟩
  simp only at hlen t0 t1 t2 t3 t4
  match c, hlen with
  | [c0, c1, c2, c3, c4], _ =>
    simp only [List.drop_zero, List.take_succ_cons, List.take_zero, List.drop_succ_cons] at t0 t1 t2 t3 t4
    obtain ⟨p0, h0, _, w0⟩ := DataW.trod_int hi t0
    obtain ⟨p1, h1, _, w1⟩ := DataW.trod_int hi t1
    obtain ⟨p2, h2, _, w2⟩ := DataW.trod_int hi t2
    obtain ⟨p3, h3, _, w3⟩ := DataW.trod_int hi t3
    obtain ⟨s, l, h4, hI⟩ := ints_of hb he hce t4
    obtain ⟨bs, hbs⟩ := hI.bytes
    simp only [List.cons.injEq, and_true] at h0 h1 h2 h3
    subst h0 h1 h2 h3 h4
    exact ⟨⟨p0, p1, p2, p3, s⟩, bs, rfl, hbs, w0, w1, w2, w3⟩

end Go.Proofs.Ytomeglmlhmpbhaa
