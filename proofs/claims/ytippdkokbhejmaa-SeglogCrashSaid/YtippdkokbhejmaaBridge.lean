/-
  From contracts of laws to the given statements: what came in, as lists of numbers.
-/
import Derived.Test.YtippdkokbhejmaaMem
import Derived.ProofKit
import Derived.OpenShut
import Derived.ChangeOld
import Derived.Below
namespace Go.Proofs.Ytippdkokbhejmaa
set_option linter.unusedVariables false
set_option linter.unusedSimpArgs false
open Go.ChangeShapes Go.WideShapes Go.ChangeAt Go.RowKit

def Yes (h : Hp) (r : Value) (h' : Hp) : Prop := r = .bool true ∧ Ext h h'
theorem Yes.ext {h h1 h2 : Hp} {r : Value} (e : Ext h h1) (y : Yes h1 r h2) : Yes h r h2 := ⟨y.1, e.trans y.2⟩
theorem toBelow {P : Program} {f : FuncId} {args : Array Value} {w : World} (H : HCalls P f args w.heap (Yes w.heap)) : Calls P f args w fun e w' => e = .returned (.bool true) ∧ Below w.heap.size w w' := by
  refine (H.2 w rfl).mono ?_
  rintro e w' ⟨v, rfl, hs, rfl, he⟩
  exact ⟨rfl, hs.os, hs.tape, hs.output, he.size, he.block⟩

theorem in_u64 {n : Int} (h : (Lit.int .u64 n).wf = true) : ∃ m : Nat, n = m ∧ m < 2 ^ 64 := by
  have := bounds_u64 h
  exact ⟨n.toNat, by omega, by omega⟩
theorem in_u32 {n : Int} (h : (Lit.int .u32 n).wf = true) : ∃ m : Nat, n = m ∧ m < 2 ^ 32 := by
  have := bounds_u32 h
  exact ⟨n.toNat, by omega, by omega⟩
/-- a slice of numbers that came in. -/
structure InI (k : IntKind) (h : Hp) (s : Sl) (l : List Int) : Prop where
  len : l.length = s.len
  cap : s.len ≤ s.cap
  max : s.cap ≤ maxLen
  rd : RdC h s.base (l.map (Value.int k))
  wf : ∀ n ∈ l, (Lit.int k n).wf = true
theorem in_ints {H : Type} {enc : TypeId × Value → H} {P : Program} {w : World} {base : Nat} {t e : TypeId} {k : IntKind} {v : Value} {d : DataW H} {ps : List MemPlace} {r : Reach} {b0 : Nat}
    (ht : P.underlying t = some (.slice e)) (he : P.underlying e = some (.int k)) (hc : P.cellsOf e = 1) (hval : Value.okWide P w r b0 t v)
    (hj : DataW.Trod enc P w base (fun _ => true) true t v d ps) : ∃ (s : Sl) (l : List Int), v = .slice s.base s.len s.cap ∧ InI k w.heap s l := by
  obtain ⟨a, len, cap, rfl⟩ := WideShapes.okWide_slice ht hval
  obtain ⟨fuel, hf⟩ := hj
  refine ⟨⟨a, len, cap⟩, ?_⟩
  rcases open_ints ht he hc hf with ⟨hcs, _⟩ | ⟨x, l, c, zs, hcs, _, hl, hm, hz, _, hcell, hwz⟩
  · simp [Value.cells] at hcs
    obtain ⟨rfl, rfl, rfl⟩ := hcs
    exact ⟨[], rfl, rfl, by simp, by simp [maxLen], RdC.nil _ _, by simp⟩
  · simp [Value.cells] at hcs
    obtain ⟨rfl, rfl, rfl⟩ := hcs
    have hz' : zs.length = cap := by simpa using hz
    refine ⟨zs.take len, rfl, by simp; omega, hl, hm, ?_, fun n hn => hwz n (List.mem_of_mem_take hn)⟩
    intro i v hv
    simp only [List.getElem?_map, List.getElem?_take] at hv
    split at hv
    · rename_i hi
      have hi' : i < zs.length := by omega
      simp [List.getElem?_eq_getElem hi'] at hv
      refine ⟨x, rfl, ?_⟩
      have := hcell i hi'
      rw [hcell_heap] at this
      rw [this, ← hv]
      simp [List.getD, List.getElem?_eq_getElem hi']
    · simp at hv
/-- a slice of bytes that came in. -/
structure InB (h : Hp) (s : Sl) (l : List UInt8) : Prop where
  len : l.length = s.len
  cap : s.len ≤ s.cap
  max : s.cap ≤ maxLen
  rd : RdC h s.base (l.map bv)
theorem InI.bytes {h : Hp} {s : Sl} {l : List Int} (H : InI .u8 h s l) : ∃ bs : List UInt8, InB h s bs := by
  refine ⟨l.map fun n => UInt8.ofNat n.toNat, by simpa using H.len, H.cap, H.max, ?_⟩
  have : (l.map fun n => UInt8.ofNat n.toNat).map bv = l.map (Value.int .u8) := by
    rw [List.map_map]
    refine List.map_congr_left fun n hn => ?_
    have := bounds_u8 (H.wf n hn)
    have h1 : n.toNat < 256 := by omega
    simp [bv, Nat.mod_eq_of_lt h1]
    omega
  rw [this]; exact H.rd

end Go.Proofs.Ytippdkokbhejmaa
