/-
  Batches that came in, by this seat's types.
-/
import Derived.Test.YtehhkjgcklhfcaaBridge6
import Derived.Test.YtehhkjgcklhfcaaRows
namespace Go.Proofs.Ytehhkjgcklhfcaa
set_option linter.unusedVariables false
set_option linter.unusedSimpArgs false
open Go.ChangeShapes Go.WideShapes Go.ChangeAt Go.RowKit

def InBs (h : Hp) (s : Sl) (L : List ((Int × Sl) × List TxD)) : Prop := L.length = s.len ∧ s.cap ≤ maxLen ∧ Rd 2 h s (c2 (L.map (·.1))) ∧ ∀ x ∈ L, (Lit.int .i64 x.1.1).wf = true ∧ InTxs h x.1.2 x.2
section
variable {H : Type} {enc : TypeId × Value → H} {w : World} {base : Nat}
theorem putsCame {fuel : Nat} {v : Value} {x : DataW H × List MemPlace} (h : DataW.trod enc Try.prog w base (fun _ => true) true fuel 26 [v] = some x) : ∃ (s : Sl) (P : List PutD), v = slV s ∧ InPuts w.heap s P := by
  obtain ⟨s, L, rfl, hl, hm, r, hb, he⟩ := pairs_of (Q := fun s (l : List UInt8) => Rd 1 w.heap s (l.map bv) ∧ (∀ a, s.base = some a → s.len ≠ 0 → a.block < w.heap.size) ∧ l.length ≤ maxLen) Try.underlying26 Try.underlying32 rfl rfl Try.underlying3 (by kernel_rfl) (by kernel_rfl) (by kernel_rfl)
    (fun fuel v x h => bytes_of Try.underlying29 Try.underlying5 (by kernel_rfl) h) h
  exact ⟨s, _, rfl, inPuts_of hl hm r hb he⟩
theorem txsCame {fuel : Nat} {v : Value} {x : DataW H × List MemPlace} (h : DataW.trod enc Try.prog w base (fun _ => true) true fuel 23 [v] = some x) : ∃ (s : Sl) (T : List TxD), v = slV s ∧ InTxs w.heap s T := by
  obtain ⟨s, L, rfl, hl, hm, r, hb, he⟩ := pairs_of (Q := fun s (P : List PutD) => InPuts w.heap s P) Try.underlying23 Try.underlying28 rfl rfl Try.underlying3 (by kernel_rfl) (by kernel_rfl) (by kernel_rfl)
    (fun fuel v x h => putsCame h) h
  exact ⟨s, _, rfl, inTxs_of hl hm r hb he⟩
structure BatchV where
  num : Int
  txs : Sl
theorem in_api_Batch {v : Value} {d : DataW H} {ps : List MemPlace} {r : Reach} {b0 : Nat} (hval : Value.okWide Try.prog w r b0 25 v) (hj : DataW.Trod enc Try.prog w base (fun _ => true) true 25 v d ps) :
    ∃ (a : BatchV) (T : List TxD), v = .agg #[.int .i64 a.num, .slice a.txs.base a.txs.len a.txs.cap] ∧ (InTxs w.heap a.txs T ∧ (Lit.int .i64 a.num).wf = true) := by
  obtain ⟨n, s, T, rfl, wn, hT⟩ := struct2_of (Q := fun s (T : List TxD) => InTxs w.heap s T) Try.underlying25 rfl rfl Try.underlying3 (by kernel_rfl) (by kernel_rfl) (by kernel_rfl) (fun fuel v x h => txsCame h) hval hj
  exact ⟨⟨n, s⟩, T, rfl, hT, wn⟩
theorem in_sapi_Batch {v : Value} {d : DataW H} {ps : List MemPlace} {r : Reach} {b0 : Nat} (hval : Value.okWide Try.prog w r b0 53 v) (hj : DataW.Trod enc Try.prog w base (fun _ => true) true 53 v d ps) :
    ∃ (s : Sl) (L : List ((Int × Sl) × List TxD)), v = .slice s.base s.len s.cap ∧ InBs w.heap s L := by
  obtain ⟨a, len, cap, rfl⟩ := WideShapes.okWide_slice Try.underlying53 hval
  obtain ⟨fuel, hfu⟩ := hj
  have hfu' : DataW.trod enc Try.prog w base (fun _ => true) true fuel 53 [.slice a len cap] = some (d, ps) := hfu
  obtain ⟨s, L, hv, hl, hm, r, hb, he⟩ := pairs_of (Q := fun s (T : List TxD) => InTxs w.heap s T) Try.underlying53 Try.underlying25 rfl rfl Try.underlying3 (by kernel_rfl) (by kernel_rfl) (by kernel_rfl)
    (fun fuel v x h => txsCame h) hfu'
  exact ⟨s, L, hv, hl, hm, r, he⟩
end

end Go.Proofs.Ytehhkjgcklhfcaa
