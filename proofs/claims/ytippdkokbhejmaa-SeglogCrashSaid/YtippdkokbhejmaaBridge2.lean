/-
  Slices of slices of bytes that came in.
-/
import Derived.Test.YtippdkokbhejmaaBridge
import Derived.Deep.Slices
namespace Go.Proofs.Ytippdkokbhejmaa
set_option linter.unusedVariables false
set_option linter.unusedSimpArgs false
open Go.ChangeShapes Go.WideShapes Go.ChangeAt Go.RowKit

theorem ints_of {H : Type} {enc : TypeId × Value → H} {P : Program} {w : World} {base fuel : Nat} {t e : TypeId} {k : IntKind} {v : Value} {x : DataW H × List MemPlace}
    (ht : P.underlying t = some (.slice e)) (he : P.underlying e = some (.int k)) (hc : P.cellsOf e = 1)
    (hf : DataW.trod enc P w base (fun _ => true) true fuel t [v] = some x) : ∃ (s : Sl) (l : List Int), v = .slice s.base s.len s.cap ∧ InI k w.heap s l := by
  rcases open_ints ht he hc hf with ⟨hcs, _⟩ | ⟨x, len, cap, zs, hcs, _, hl, hm, hz, _, hcell, hwz⟩
  · obtain rfl : v = .slice none 0 0 := by simpa using hcs
    exact ⟨⟨none, 0, 0⟩, [], rfl, rfl, by simp, by simp [maxLen], RdC.nil _ _, by simp⟩
  · obtain rfl : v = .slice (some x) len cap := by simpa using hcs
    have hz' : zs.length = cap := by simpa using hz
    refine ⟨⟨some x, len, cap⟩, zs.take len, rfl, by simp; omega, hl, hm, ?_, fun n hn => hwz n (List.mem_of_mem_take hn)⟩
    intro i v hv
    simp only [List.getElem?_map, List.getElem?_take] at hv
    split at hv
    · rename_i hi
      have hi' : i < zs.length := by omega
      simp [List.getElem?_eq_getElem hi'] at hv
      refine ⟨x, rfl, ?_⟩
      have := hcell i hi'
      rw [hcell_heap] at this
      rw [this, ← hv]
      simp [List.getD, List.getElem?_eq_getElem hi']
    · simp at hv
def slV (s : Sl) : Value := .slice s.base s.len s.cap
/-- a slice of rows of bytes that came in. -/
structure InBB (h : Hp) (s : Sl) (l : List (Sl × List UInt8)) : Prop where
  len : l.length = s.len
  cap : s.len ≤ s.cap
  max : s.cap ≤ maxLen
  rd : RdC h s.base (l.map fun p => slV p.1)
  each : ∀ p ∈ l, InB h p.1 p.2
instance : Inhabited Sl := ⟨Sl.nil⟩
theorem in_bss {H : Type} {enc : TypeId × Value → H} {P : Program} {w : World} {base : Nat} {t e f : TypeId} {v : Value} {d : DataW H} {ps : List MemPlace} {r : Reach} {b0 : Nat}
    (ht : P.underlying t = some (.slice e)) (he : P.underlying e = some (.slice f)) (hf : P.underlying f = some (.int .u8)) (hc : P.cellsOf e = 1) (hc2 : P.cellsOf f = 1) (hval : Value.okWide P w r b0 t v)
    (hj : DataW.Trod enc P w base (fun _ => true) true t v d ps) : ∃ (s : Sl) (l : List (Sl × List UInt8)), v = .slice s.base s.len s.cap ∧ InBB w.heap s l := by
  obtain ⟨a, len, cap, rfl⟩ := WideShapes.okWide_slice ht hval
  obtain ⟨fuel, hfu⟩ := hj
  refine ⟨⟨a, len, cap⟩, ?_⟩
  rcases Deep.open_slice1 ht hc hfu with ⟨hcs, _⟩ | ⟨x, ln, cp, m, n, V, D, Pl, hcs, _, hl, hm, hmm, _, hx⟩
  · simp [Value.cells] at hcs
    obtain ⟨rfl, rfl, rfl⟩ := hcs
    exact ⟨[], rfl, rfl, by simp, by simp [maxLen], RdC.nil _ _, by simp⟩
  · simp [Value.cells] at hcs
    obtain ⟨rfl, rfl, rfl⟩ := hcs
    have hm' : m = cap := by simpa using hmm
    obtain ⟨g, hg⟩ := Deep.choose_lt (α := Sl × List UInt8) (n := len) (p := fun i p => V i = slV p.1 ∧ InB w.heap p.1 p.2) (fun i hi => by
      obtain ⟨s, l, hv, hI⟩ := ints_of he hf hc2 (hx i (by omega)).2
      obtain ⟨bs, hb⟩ := hI.bytes
      exact ⟨(s, bs), hv, hb⟩)
    refine ⟨(List.range len).map g, rfl, by simp, hl, hm, ?_, ?_⟩
    · intro i v hv
      simp only [List.map_map, List.getElem?_map] at hv
      by_cases hi : i < len
      · rw [List.getElem?_range hi] at hv
        obtain rfl : slV (g i).1 = v := by simpa using hv
        refine ⟨x, rfl, ?_⟩
        have := (hx i (by omega)).1
        rw [hcell_heap] at this
        rw [this, (hg i hi).1]
      · rw [List.getElem?_eq_none (by simpa using Nat.le_of_not_lt hi)] at hv; simp at hv
    · intro p hp
      obtain ⟨i, hi, rfl⟩ := List.mem_map.1 hp
      exact (hg i (by simpa using hi)).2

end Go.Proofs.Ytippdkokbhejmaa
