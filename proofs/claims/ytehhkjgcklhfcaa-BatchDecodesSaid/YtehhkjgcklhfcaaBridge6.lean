/-
  Batches that came in.
-/
import Derived.Test.YtehhkjgcklhfcaaBridge2
import Derived.Test.YtehhkjgcklhfcaaBatch0
namespace Go.Proofs.Ytehhkjgcklhfcaa
set_option linter.unusedVariables false
set_option linter.unusedSimpArgs false
open Go.ChangeShapes Go.WideShapes Go.ChangeAt Go.RowKit

section
variable {H : Type} {enc : TypeId × Value → H} {P : Program} {w : World} {base : Nat}
theorem rd_c2 {h : Hp} {a : Addr} {l : List (Int × Sl)} (hg : ∀ i (hi : i < l.length), hcell h (a.add (i * 2)) = some (.int .i64 l[i].1) ∧ hcell h ((a.add (i * 2)).add 1) = some (slV l[i].2)) : RdC h (some a) (c2 l) := by
  intro i v hv
  refine ⟨a, rfl, ?_⟩
  obtain ⟨k, hk⟩ : ∃ k, i = k * 2 ∨ i = k * 2 + 1 := ⟨i / 2, by omega⟩
  rcases hk with rfl | rfl
  · rw [c2_get0] at hv
    by_cases hkl : k < l.length
    · rw [List.getElem?_eq_getElem hkl] at hv
      obtain rfl : Value.int .i64 l[k].1 = v := Option.some.inj hv
      exact (hg k hkl).1
    · rw [List.getElem?_eq_none (by omega)] at hv; cases hv
  · rw [c2_get1] at hv
    by_cases hkl : k < l.length
    · rw [List.getElem?_eq_getElem hkl] at hv
      obtain rfl : slV l[k].2 = v := Option.some.inj hv
      have := (hg k hkl).2
      rwa [add_add] at this
    · rw [List.getElem?_eq_none (by omega)] at hv; cases hv
theorem pairs_of {β : Type} [Inhabited β] {Q : Sl → β → Prop} {t e ti tf : TypeId} {f0 f1 : Field} (ht : P.underlying t = some (.slice e)) (he : P.underlying e = some (.struct #[f0, f1])) (hf0 : (f0.type, f0.offset) = (ti, 0)) (hf1 : (f1.type, f1.offset) = (tf, 1))
    (hi : P.underlying ti = some (.int .i64)) (hc : P.cellsOf e = 2) (hci : P.cellsOf ti = 1) (hcf : P.cellsOf tf = 1)
    (sub : ∀ fuel v x, DataW.trod enc P w base (fun _ => true) true fuel tf [v] = some x → ∃ s b, v = slV s ∧ Q s b)
    {fuel : Nat} {v : Value} {x : DataW H × List MemPlace} (h : DataW.trod enc P w base (fun _ => true) true fuel t [v] = some x) :
    ∃ (s : Sl) (L : List ((Int × Sl) × β)), v = slV s ∧ L.length = s.len ∧ s.cap ≤ maxLen ∧ Rd 2 w.heap s (c2 (L.map (·.1))) ∧ (∀ a, s.base = some a → s.len ≠ 0 → a.block < w.heap.size) ∧ ∀ x ∈ L, (Lit.int .i64 x.1.1).wf = true ∧ Q x.1.2 x.2 := by
  rcases Deep.open_slice ht h with ⟨hcs, _⟩ | ⟨a, len, cap, m, n, D, Pl, hcs, _, hl, hm, hmm, _, hx⟩
  · obtain rfl : v = .slice none 0 0 := by simpa using hcs
    exact ⟨⟨none, 0, 0⟩, [], rfl, rfl, by simp [maxLen], ⟨rfl, Nat.le_refl _, RdC.nil _ _⟩, fun a ha => (by cases ha), fun x hx => by simp at hx⟩
  · obtain rfl : v = .slice (some a) len cap := by simpa using hcs
    have hm' : m = cap := by simpa using hmm
    simp only [Prod.mk.injEq] at hf0 hf1
    obtain ⟨g, hg⟩ := Deep.choose_lt (α := (Int × Sl) × β) (n := len) (p := fun i p => hcell w.heap (a.add (i * 2)) = some (.int .i64 p.1.1) ∧ hcell w.heap ((a.add (i * 2)).add 1) = some (slV p.1.2) ∧ (Lit.int .i64 p.1.1).wf = true ∧ Q p.1.2 p.2) (fun i hi' => by
      obtain ⟨cs, hcs, htr⟩ := hx i (by omega)
      rw [hc] at hcs
      obtain ⟨_, hlen, hget⟩ := World.cells?_some hcs
      obtain ⟨xs, n', _, _, _, hxl, hxs⟩ := DataW.trod_struct he htr
      have hxl' : xs.length = 2 := hxl
      have t0 := hxs 0 f0 rfl
      have t1 := hxs 1 f1 rfl
      rw [hf0.1, hf0.2, hci, List.getElem?_eq_getElem (by omega)] at t0
      rw [hf1.1, hf1.2, hcf, List.getElem?_eq_getElem (by omega)] at t1
      match cs, hlen with
      | [c0, c1], _ =>
        simp only [List.drop_zero, List.take_succ_cons, List.take_zero, List.drop_succ_cons] at t0 t1
        obtain ⟨p, hp, _, wp⟩ := DataW.trod_int hi t0
        obtain ⟨s, b, hv1, hQ⟩ := sub _ _ _ t1
        simp only [List.cons.injEq, and_true] at hp
        subst hp hv1
        have g0 := hget 0 (by omega)
        have g1 := hget 1 (by omega)
        rw [hcell_heap] at g0 g1
        refine ⟨((p, s), b), ?_, ?_, wp, hQ⟩
        · have : (a.add (i * 2)).add 0 = a.add (i * 2) := by rw [add_add]; rfl
          rw [this] at g0; rw [g0]; rfl
        · rw [g1]; rfl)
    have hcells : ∀ i, ∀ hi : i < len, ((((List.range len).map g).map (·.1))[i]'(by simpa using hi)) = (g i).1 := fun i hi => by simp
    have rd : RdC w.heap (some a) (c2 (((List.range len).map g).map (·.1))) := rd_c2 fun i hi => by
      have hi' : i < len := by simpa using hi
      rw [hcells i hi']
      exact ⟨(hg i hi').1, (hg i hi').2.1⟩
    refine ⟨⟨some a, len, cap⟩, (List.range len).map g, rfl, by simp, hm, ⟨by rw [c2_length]; simp, hl, rd⟩, ?_, ?_⟩
    · intro a' ha' h0
      cases ha'
      have := hcell_lt (hg 0 (by show 0 < len; have : len ≠ 0 := h0; omega)).1
      rwa [add_block] at this
    · intro p hp
      obtain ⟨i, hi', rfl⟩ := List.mem_map.1 hp
      have := hg i (by simpa using hi')
      exact ⟨this.2.2.1, this.2.2.2⟩
theorem bytes_of {t e : TypeId} (ht : P.underlying t = some (.slice e)) (he : P.underlying e = some (.int .u8)) (hc : P.cellsOf e = 1) {fuel : Nat} {v : Value} {x : DataW H × List MemPlace} (h : DataW.trod enc P w base (fun _ => true) true fuel t [v] = some x) :
    ∃ (s : Sl) (l : List UInt8), v = slV s ∧ (Rd 1 w.heap s (l.map bv) ∧ (∀ a, s.base = some a → s.len ≠ 0 → a.block < w.heap.size) ∧ l.length ≤ maxLen) := by
  obtain ⟨s, l, rfl, hI⟩ := ints_of ht he hc h
  obtain ⟨bs, hb⟩ := hI.bytes
  have hl := hb.len
  refine ⟨s, bs, rfl, ⟨by simpa using hb.len, hb.cap, hb.rd⟩, fun a ha h0 => ?_, by have := hb.cap; have := hb.max; omega⟩
  exact hb.rd.lt (by intro e; rw [List.map_eq_nil_iff] at e; subst e; simp at hl; omega) ha
/-- a struct of a number and a slice. -/
theorem struct2_of {β : Type} {Q : Sl → β → Prop} {t ti tf : TypeId} {f0 f1 : Field} {v : Value} {d : DataW H} {ps : List MemPlace} {r : Reach} {b0 : Nat} (ht : P.underlying t = some (.struct #[f0, f1])) (hf0 : (f0.type, f0.offset) = (ti, 0)) (hf1 : (f1.type, f1.offset) = (tf, 1))
    (hi : P.underlying ti = some (.int .i64)) (hc : P.cellsOf t = 2) (hci : P.cellsOf ti = 1) (hcf : P.cellsOf tf = 1)
    (sub : ∀ fuel v x, DataW.trod enc P w base (fun _ => true) true fuel tf [v] = some x → ∃ s b, v = slV s ∧ Q s b)
    (hval : Value.okWide P w r b0 t v) (hj : DataW.Trod enc P w base (fun _ => true) true t v d ps) : ∃ (n : Int) (s : Sl) (b : β), v = .agg #[.int .i64 n, slV s] ∧ (Lit.int .i64 n).wf = true ∧ Q s b := by
  obtain ⟨cs, rfl, hcs⟩ := WideShapes.okWide_struct ht hval
  obtain ⟨fuel, hfu⟩ := hj
  have hfu' : DataW.trod enc P w base (fun _ => true) true fuel t cs.toList = some (d, ps) := hfu
  obtain ⟨xs, n', _, _, _, hxl, hxs⟩ := DataW.trod_struct ht hfu'
  have hxl' : xs.length = 2 := hxl
  have hlen : cs.toList.length = 2 := by simpa [hc] using hcs
  have t0 := hxs 0 f0 rfl
  have t1 := hxs 1 f1 rfl
  simp only [Prod.mk.injEq] at hf0 hf1
  rw [hf0.1, hf0.2, hci, List.getElem?_eq_getElem (by omega)] at t0
  rw [hf1.1, hf1.2, hcf, List.getElem?_eq_getElem (by omega)] at t1
  obtain ⟨c, rfl⟩ : ∃ l : List Value, cs = l.toArray := ⟨cs.toList, by simp⟩
  simp only at hlen t0 t1
  match c, hlen with
  | [c0, c1], _ =>
    simp only [List.drop_zero, List.take_succ_cons, List.take_zero, List.drop_succ_cons] at t0 t1
    obtain ⟨p0, h0, _, w0⟩ := DataW.trod_int hi t0
    obtain ⟨s, b, h1, hQ⟩ := sub _ _ _ t1
    simp only [List.cons.injEq, and_true] at h0
    subst h0 h1
    exact ⟨p0, s, b, rfl, w0, hQ⟩
end
/-- Puts that came in. -/
def InPuts (h : Hp) (s : Sl) (P : List PutD) : Prop := PutsR (· < h.size) h s P ∧ P.length ≤ maxLen ∧ ∀ y ∈ P, y.2.length ≤ maxLen
def InTxs (h : Hp) (s : Sl) (T : List TxD) : Prop := TxsR (· < h.size) h s T ∧ T.length ≤ maxLen ∧ ∀ x ∈ T, x.2.length ≤ maxLen ∧ ∀ y ∈ x.2, y.2.length ≤ maxLen
theorem inPuts_of {h : Hp} {s : Sl} {L : List ((Int × Sl) × List UInt8)} (hl : L.length = s.len) (hm : s.cap ≤ maxLen) (r : Rd 2 h s (c2 (L.map (·.1)))) (hb : ∀ a, s.base = some a → s.len ≠ 0 → a.block < h.size)
    (he : ∀ x ∈ L, (Lit.int .i64 x.1.1).wf = true ∧ Rd 1 h x.1.2 (x.2.map bv) ∧ (∀ a, x.1.2.base = some a → x.1.2.len ≠ 0 → a.block < h.size) ∧ x.2.length ≤ maxLen) : InPuts h s (L.map fun x => (x.1.1, x.2)) := by
  refine ⟨⟨L, rfl, r, hb, fun x hx => ⟨(he x hx).2.1, (he x hx).2.2.1⟩⟩, by have := r.cap; simp; omega, fun y hy => ?_⟩
  obtain ⟨x, hx, rfl⟩ := List.mem_map.1 hy
  exact (he x hx).2.2.2
theorem inTxs_of {h : Hp} {s : Sl} {L : List ((Int × Sl) × List PutD)} (hl : L.length = s.len) (hm : s.cap ≤ maxLen) (r : Rd 2 h s (c2 (L.map (·.1)))) (hb : ∀ a, s.base = some a → s.len ≠ 0 → a.block < h.size)
    (he : ∀ x ∈ L, (Lit.int .i64 x.1.1).wf = true ∧ InPuts h x.1.2 x.2) : InTxs h s (L.map fun x => (x.1.1, x.2)) := by
  refine ⟨⟨L, rfl, r, hb, fun x hx => (he x hx).2.1⟩, by have := r.cap; simp; omega, fun y hy => ?_⟩
  obtain ⟨x, hx, rfl⟩ := List.mem_map.1 hy
  exact ⟨(he x hx).2.2.1, (he x hx).2.2.2⟩

end Go.Proofs.Ytehhkjgcklhfcaa
