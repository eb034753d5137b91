/-
  No cell of these rows narrows 'for every input' (looked for: loops, veiled, ifaces, maps, wideKeys, modest, calm, conditions, laid).
  DERIVED. THE GIVEN ROWS OF THIS SEAT. 5 by the template 'for every input the law returns true; each argument reads behind the call as it read before'; 0 by the template 'total and deterministic' (their statements: YtehhkjgcklhfcaaTotals.lean).
  GIVEN WITH THE SEED: the statements are not yours to turn. If you find one false, say at which input.
  Laid BY PROGRAM, IN A SANDBOX (cutbox-rows.mjs): the forced cells as the released guide's own fill.sh prints them over the translation a2e8f67cfcddf5ae… (all of the seat's roots in one cut). By AI agents, Wed Nov 11 2026. No macro, syntax, notation, axiom, sorry.
-/
import Derived.Test.YtehhkjgcklhfcaaChecked
import GoSem.Claim
import GoSem.ClaimJoined
import GoSem.ClaimMapViews
import Derived.JoinedTies
import Derived.KernelRfl
namespace Go.Proofs.Ytehhkjgcklhfcaa
/- THE CELL 'sum', in the pinned program and in every row, IS THE sha256 OF THE DUMP (.gsa) THAT YtehhkjgcklhfcaaProg.lean LOADS. Nothing in Lean hashes anything: it is a label: what it is worth is what the hold of that sum in a sandbox is worth. -/
noncomputable def Try.pinned : Pinned := { name := "ytehhkjgcklhfcaa", sum := "a2e8f67cfcddf5ae6b2ccf53034a83aa0415ff3b43bd7195ca82e440479350b4", checked := Try.checked }
namespace Rows
def none {H : Type} : Left H := { results := [], args := [] }

/-- 'scarplaw17.BatchLimits': WHATEVER THE INPUT: true; the input reads as it did. -/
def batchLimitsSpec : ChangeSpec := { name := "batchLimits", fn := fun _ => fun
  | [d1, d2, d3] => { results := [.lit (.bool true)], args := [d1, d2, d3] }
  | _ => none }
def batchLimitsRow : OpenClaim := { program := "ytehhkjgcklhfcaa", sum := "a2e8f67cfcddf5ae6b2ccf53034a83aa0415ff3b43bd7195ca82e440479350b4", func := "scarp/scarplaw17.BatchLimits", spec := "batchLimits", unfollowed := true, recurses := true, apart := false }
def BatchLimitsSaid : Prop := batchLimitsRow.holds Try.pinned (OpenSpec.ofChange batchLimitsSpec)

/-- ITS FALSE NEIGHBOUR: 'it returns false'. Refute it at one input. -/
def batchLimitsWrong : ChangeSpec := { name := "batchLimits", fn := fun _ => fun
  | [d1, d2, d3] => { results := [.lit (.bool false)], args := [d1, d2, d3] }
  | _ => none }
def BatchLimitsWrongFalsely : Prop := batchLimitsRow.holds Try.pinned (OpenSpec.ofChange batchLimitsWrong)

/-- 'scarplaw17.BatchForms': WHATEVER THE INPUT: true; the input reads as it did. -/
def batchFormsSpec : ChangeSpec := { name := "batchForms", fn := fun _ => fun
  | [d] => { results := [.lit (.bool true)], args := [d] }
  | _ => none }
def batchFormsRow : OpenClaim := { program := "ytehhkjgcklhfcaa", sum := "a2e8f67cfcddf5ae6b2ccf53034a83aa0415ff3b43bd7195ca82e440479350b4", func := "scarp/scarplaw17.BatchForms", spec := "batchForms", unfollowed := true, recurses := true, apart := false }
def BatchFormsSaid : Prop := batchFormsRow.holds Try.pinned (OpenSpec.ofChange batchFormsSpec)

/-- ITS FALSE NEIGHBOUR: 'it returns false'. Refute it at one input. -/
def batchFormsWrong : ChangeSpec := { name := "batchForms", fn := fun _ => fun
  | [d] => { results := [.lit (.bool false)], args := [d] }
  | _ => none }
def BatchFormsWrongFalsely : Prop := batchFormsRow.holds Try.pinned (OpenSpec.ofChange batchFormsWrong)

/-- 'scarplaw17.BatchDecodes': WHATEVER THE INPUT: true; the input reads as it did. -/
def batchDecodesSpec : ChangeSpec := { name := "batchDecodes", fn := fun _ => fun
  | [d] => { results := [.lit (.bool true)], args := [d] }
  | _ => none }
def batchDecodesRow : OpenClaim := { program := "ytehhkjgcklhfcaa", sum := "a2e8f67cfcddf5ae6b2ccf53034a83aa0415ff3b43bd7195ca82e440479350b4", func := "scarp/scarplaw17.BatchDecodes", spec := "batchDecodes", unfollowed := true, recurses := true, apart := false }
def BatchDecodesSaid : Prop := batchDecodesRow.holds Try.pinned (OpenSpec.ofChange batchDecodesSpec)

/-- ITS FALSE NEIGHBOUR: 'it returns false'. Refute it at one input. -/
def batchDecodesWrong : ChangeSpec := { name := "batchDecodes", fn := fun _ => fun
  | [d] => { results := [.lit (.bool false)], args := [d] }
  | _ => none }
def BatchDecodesWrongFalsely : Prop := batchDecodesRow.holds Try.pinned (OpenSpec.ofChange batchDecodesWrong)

/-- 'scarplaw17.BatchBack': WHATEVER THE INPUT: true; the input reads as it did. -/
def batchBackSpec : ChangeSpec := { name := "batchBack", fn := fun _ => fun
  | [d1, d2, d3, d4, d5] => { results := [.lit (.bool true)], args := [d1, d2, d3, d4, d5] }
  | _ => none }
def batchBackRow : OpenClaim := { program := "ytehhkjgcklhfcaa", sum := "a2e8f67cfcddf5ae6b2ccf53034a83aa0415ff3b43bd7195ca82e440479350b4", func := "scarp/scarplaw17.BatchBack", spec := "batchBack", unfollowed := true, recurses := true, apart := false }
def BatchBackSaid : Prop := batchBackRow.holds Try.pinned (OpenSpec.ofChange batchBackSpec)

/-- ITS FALSE NEIGHBOUR: 'it returns false'. Refute it at one input. -/
def batchBackWrong : ChangeSpec := { name := "batchBack", fn := fun _ => fun
  | [d1, d2, d3, d4, d5] => { results := [.lit (.bool false)], args := [d1, d2, d3, d4, d5] }
  | _ => none }
def BatchBackWrongFalsely : Prop := batchBackRow.holds Try.pinned (OpenSpec.ofChange batchBackWrong)

/-- 'scarplaw17.BatchRow': WHATEVER THE INPUT: true; the input reads as it did. -/
def batchRowSpec : ChangeSpec := { name := "batchRow", fn := fun _ => fun
  | [d1, d2] => { results := [.lit (.bool true)], args := [d1, d2] }
  | _ => none }
def batchRowRow : OpenClaim := { program := "ytehhkjgcklhfcaa", sum := "a2e8f67cfcddf5ae6b2ccf53034a83aa0415ff3b43bd7195ca82e440479350b4", func := "scarp/scarplaw17.BatchRow", spec := "batchRow", unfollowed := true, recurses := true, apart := false }
def BatchRowSaid : Prop := batchRowRow.holds Try.pinned (OpenSpec.ofChange batchRowSpec)

/-- ITS FALSE NEIGHBOUR: 'it returns false'. Refute it at one input. -/
def batchRowWrong : ChangeSpec := { name := "batchRow", fn := fun _ => fun
  | [d1, d2] => { results := [.lit (.bool false)], args := [d1, d2] }
  | _ => none }
def BatchRowWrongFalsely : Prop := batchRowRow.holds Try.pinned (OpenSpec.ofChange batchRowWrong)

/- THE SECOND FORM. 'bulk': how many values and letters a reading holds, each counted each time it is reached (what is shared counts as often as it is met; a slice's spare places count too). A statement '..UptoSaid' is the law's where the arguments, and the package variables that the reading takes, are together of bulk at most 1048576: NARROWER than '..Said'. Prove '..Said' where nothing that the law and all that it calls make is longer than what came in: it says more and counts as full. Else prove '..UptoSaid'. A law counts once. -/
mutual
def uptoBulk {H : Type} : DataW H → Nat
  | .lit (.string bytes) => bytes.length + 1
  | .lit _ => 1
  | .nil => 1
  | .ptr d => uptoBulk d + 1
  | .slice elems spare => uptoBulkAll elems + uptoBulkAll spare + 1
  | .agg parts => uptoBulkAll parts + 1
  | .iface _ d => uptoBulk d + 1
  | .map entries => uptoBulkEntries entries + 1
  | .held _ => 1
def uptoBulkAll {H : Type} : List (DataW H) → Nat
  | [] => 0
  | d :: r => uptoBulk d + uptoBulkAll r
def uptoBulkEntries {H : Type} : List (Lit × DataW H) → Nat
  | [] => 0
  | x :: r => uptoBulkEntry x + uptoBulkEntries r
def uptoBulkEntry {H : Type} : Lit × DataW H → Nat
  | (.string bytes, d) => bytes.length + uptoBulk d + 1
  | (_, d) => uptoBulk d + 1
 end
def uptoSmall : (H : Type) → List (DataW H) → Bool := fun _ ds => decide (uptoBulkAll ds ≤ 1048576)
def OpenSpec.upto (s : _root_.Go.ChangeSpec) : _root_.Go.OpenSpec := { _root_.Go.OpenSpec.ofChange s with cond := some uptoSmall }

/-- 'scarplaw17.BatchLimits', WHERE WHAT IT READS IS OF BULK AT MOST 1048576: true; the input reads as it did. -/
def batchLimitsUptoRow : OpenClaim := { program := "ytehhkjgcklhfcaa", sum := "a2e8f67cfcddf5ae6b2ccf53034a83aa0415ff3b43bd7195ca82e440479350b4", func := "scarp/scarplaw17.BatchLimits", spec := "batchLimits", unfollowed := true, recurses := true, apart := false, narrowed := true }
def BatchLimitsUptoSaid : Prop := batchLimitsUptoRow.holds Try.pinned (OpenSpec.upto batchLimitsSpec)

/-- 'scarplaw17.BatchForms', WHERE WHAT IT READS IS OF BULK AT MOST 1048576: true; the input reads as it did. -/
def batchFormsUptoRow : OpenClaim := { program := "ytehhkjgcklhfcaa", sum := "a2e8f67cfcddf5ae6b2ccf53034a83aa0415ff3b43bd7195ca82e440479350b4", func := "scarp/scarplaw17.BatchForms", spec := "batchForms", unfollowed := true, recurses := true, apart := false, narrowed := true }
def BatchFormsUptoSaid : Prop := batchFormsUptoRow.holds Try.pinned (OpenSpec.upto batchFormsSpec)

/-- 'scarplaw17.BatchDecodes', WHERE WHAT IT READS IS OF BULK AT MOST 1048576: true; the input reads as it did. -/
def batchDecodesUptoRow : OpenClaim := { program := "ytehhkjgcklhfcaa", sum := "a2e8f67cfcddf5ae6b2ccf53034a83aa0415ff3b43bd7195ca82e440479350b4", func := "scarp/scarplaw17.BatchDecodes", spec := "batchDecodes", unfollowed := true, recurses := true, apart := false, narrowed := true }
def BatchDecodesUptoSaid : Prop := batchDecodesUptoRow.holds Try.pinned (OpenSpec.upto batchDecodesSpec)

/-- 'scarplaw17.BatchBack', WHERE WHAT IT READS IS OF BULK AT MOST 1048576: true; the input reads as it did. -/
def batchBackUptoRow : OpenClaim := { program := "ytehhkjgcklhfcaa", sum := "a2e8f67cfcddf5ae6b2ccf53034a83aa0415ff3b43bd7195ca82e440479350b4", func := "scarp/scarplaw17.BatchBack", spec := "batchBack", unfollowed := true, recurses := true, apart := false, narrowed := true }
def BatchBackUptoSaid : Prop := batchBackUptoRow.holds Try.pinned (OpenSpec.upto batchBackSpec)

/-- 'scarplaw17.BatchRow', WHERE WHAT IT READS IS OF BULK AT MOST 1048576: true; the input reads as it did. -/
def batchRowUptoRow : OpenClaim := { program := "ytehhkjgcklhfcaa", sum := "a2e8f67cfcddf5ae6b2ccf53034a83aa0415ff3b43bd7195ca82e440479350b4", func := "scarp/scarplaw17.BatchRow", spec := "batchRow", unfollowed := true, recurses := true, apart := false, narrowed := true }
def BatchRowUptoSaid : Prop := batchRowUptoRow.holds Try.pinned (OpenSpec.upto batchRowSpec)

end Rows
end Go.Proofs.Ytehhkjgcklhfcaa
