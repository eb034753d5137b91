/-
  No cell of these rows narrows 'for every input' (looked for: loops, veiled, ifaces, maps, wideKeys, modest, calm, conditions, laid).
  DERIVED. THE GIVEN ROWS OF THIS SEAT. 5 by the template 'for every input the law returns true; each argument reads behind the call as it read before'; 0 by the template 'total and deterministic' (their statements: YtmnkafplmbngnaaTotals.lean).
  GIVEN WITH THE SEED: the statements are not yours to turn. If you find one false, say at which input.
  Laid BY PROGRAM, IN A SANDBOX (cutbox-rows.mjs): the forced cells as the released guide's own fill.sh prints them over the translation 0c5f744a614f5934… (all of the seat's roots in one cut). By AI agents, Wed Nov 11 2026. No macro, syntax, notation, axiom, sorry.
-/
import Derived.Test.YtmnkafplmbngnaaChecked
import GoSem.Claim
import GoSem.ClaimJoined
import GoSem.ClaimMapViews
import Derived.JoinedTies
import Derived.KernelRfl
namespace Go.Proofs.Ytmnkafplmbngnaa
/- THE CELL 'sum', in the pinned program and in every row, IS THE sha256 OF THE DUMP (.gsa) THAT YtmnkafplmbngnaaProg.lean LOADS. Nothing in Lean hashes anything: it is a label: what it is worth is what the hold of that sum in a sandbox is worth. -/
noncomputable def Try.pinned : Pinned := { name := "ytmnkafplmbngnaa", sum := "0c5f744a614f593464d01d4d74b93eef59d3cf16172766e5baa1a959af9a43dc", checked := Try.checked }
namespace Rows
def none {H : Type} : Left H := { results := [], args := [] }

/-- 'scarplaw10.AllocOnce': WHATEVER THE INPUT: true; the input reads as it did. -/
def allocOnceSpec : ChangeSpec := { name := "allocOnce", fn := fun _ => fun
  | [d1, d2, d3] => { results := [.lit (.bool true)], args := [d1, d2, d3] }
  | _ => none }
def allocOnceRow : OpenClaim := { program := "ytmnkafplmbngnaa", sum := "0c5f744a614f593464d01d4d74b93eef59d3cf16172766e5baa1a959af9a43dc", func := "scarp/scarplaw10.AllocOnce", spec := "allocOnce", apart := false }
def AllocOnceSaid : Prop := allocOnceRow.holds Try.pinned (OpenSpec.ofChange allocOnceSpec)

/-- ITS FALSE NEIGHBOUR: 'it returns false'. Refute it at one input. -/
def allocOnceWrong : ChangeSpec := { name := "allocOnce", fn := fun _ => fun
  | [d1, d2, d3] => { results := [.lit (.bool false)], args := [d1, d2, d3] }
  | _ => none }
def AllocOnceWrongFalsely : Prop := allocOnceRow.holds Try.pinned (OpenSpec.ofChange allocOnceWrong)

/-- 'scarplaw10.AllocEven': WHATEVER THE INPUT: true; the input reads as it did. -/
def allocEvenSpec : ChangeSpec := { name := "allocEven", fn := fun _ => fun
  | [d1, d2] => { results := [.lit (.bool true)], args := [d1, d2] }
  | _ => none }
def allocEvenRow : OpenClaim := { program := "ytmnkafplmbngnaa", sum := "0c5f744a614f593464d01d4d74b93eef59d3cf16172766e5baa1a959af9a43dc", func := "scarp/scarplaw10.AllocEven", spec := "allocEven", apart := false }
def AllocEvenSaid : Prop := allocEvenRow.holds Try.pinned (OpenSpec.ofChange allocEvenSpec)

/-- ITS FALSE NEIGHBOUR: 'it returns false'. Refute it at one input. -/
def allocEvenWrong : ChangeSpec := { name := "allocEven", fn := fun _ => fun
  | [d1, d2] => { results := [.lit (.bool false)], args := [d1, d2] }
  | _ => none }
def AllocEvenWrongFalsely : Prop := allocEvenRow.holds Try.pinned (OpenSpec.ofChange allocEvenWrong)

/-- 'scarplaw10.AllocPlays': WHATEVER THE INPUT: true; the input reads as it did. -/
def allocPlaysSpec : ChangeSpec := { name := "allocPlays", fn := fun _ => fun
  | [d1, d2, d3] => { results := [.lit (.bool true)], args := [d1, d2, d3] }
  | _ => none }
def allocPlaysRow : OpenClaim := { program := "ytmnkafplmbngnaa", sum := "0c5f744a614f593464d01d4d74b93eef59d3cf16172766e5baa1a959af9a43dc", func := "scarp/scarplaw10.AllocPlays", spec := "allocPlays", apart := false }
def AllocPlaysSaid : Prop := allocPlaysRow.holds Try.pinned (OpenSpec.ofChange allocPlaysSpec)

/-- ITS FALSE NEIGHBOUR: 'it returns false'. Refute it at one input. -/
def allocPlaysWrong : ChangeSpec := { name := "allocPlays", fn := fun _ => fun
  | [d1, d2, d3] => { results := [.lit (.bool false)], args := [d1, d2, d3] }
  | _ => none }
def AllocPlaysWrongFalsely : Prop := allocPlaysRow.holds Try.pinned (OpenSpec.ofChange allocPlaysWrong)

/-- 'scarplaw10.AllocMarks': WHATEVER THE INPUT: true; the input reads as it did. -/
def allocMarksSpec : ChangeSpec := { name := "allocMarks", fn := fun _ => fun
  | [d1, d2] => { results := [.lit (.bool true)], args := [d1, d2] }
  | _ => none }
def allocMarksRow : OpenClaim := { program := "ytmnkafplmbngnaa", sum := "0c5f744a614f593464d01d4d74b93eef59d3cf16172766e5baa1a959af9a43dc", func := "scarp/scarplaw10.AllocMarks", spec := "allocMarks", apart := false }
def AllocMarksSaid : Prop := allocMarksRow.holds Try.pinned (OpenSpec.ofChange allocMarksSpec)

/-- ITS FALSE NEIGHBOUR: 'it returns false'. Refute it at one input. -/
def allocMarksWrong : ChangeSpec := { name := "allocMarks", fn := fun _ => fun
  | [d1, d2] => { results := [.lit (.bool false)], args := [d1, d2] }
  | _ => none }
def AllocMarksWrongFalsely : Prop := allocMarksRow.holds Try.pinned (OpenSpec.ofChange allocMarksWrong)

/-- 'scarplaw10.AllocNothing': WHATEVER THE INPUT: true; the input reads as it did. -/
def allocNothingSpec : ChangeSpec := { name := "allocNothing", fn := fun _ => fun
  | [d1, d2, d3] => { results := [.lit (.bool true)], args := [d1, d2, d3] }
  | _ => none }
def allocNothingRow : OpenClaim := { program := "ytmnkafplmbngnaa", sum := "0c5f744a614f593464d01d4d74b93eef59d3cf16172766e5baa1a959af9a43dc", func := "scarp/scarplaw10.AllocNothing", spec := "allocNothing", apart := false }
def AllocNothingSaid : Prop := allocNothingRow.holds Try.pinned (OpenSpec.ofChange allocNothingSpec)

/-- ITS FALSE NEIGHBOUR: 'it returns false'. Refute it at one input. -/
def allocNothingWrong : ChangeSpec := { name := "allocNothing", fn := fun _ => fun
  | [d1, d2, d3] => { results := [.lit (.bool false)], args := [d1, d2, d3] }
  | _ => none }
def AllocNothingWrongFalsely : Prop := allocNothingRow.holds Try.pinned (OpenSpec.ofChange allocNothingWrong)

/- THE SECOND FORM. 'bulk': how many values and letters a reading holds, each counted each time it is reached (what is shared counts as often as it is met; a slice's spare places count too). A statement '..UptoSaid' is the law's where the arguments, and the package variables that the reading takes, are together of bulk at most 1048576: NARROWER than '..Said'. Prove '..Said' where nothing that the law and all that it calls make is longer than what came in: it says more and counts as full. Else prove '..UptoSaid'. A law counts once. -/
mutual
def uptoBulk {H : Type} : DataW H → Nat
  | .lit (.string bytes) => bytes.length + 1
  | .lit _ => 1
  | .nil => 1
  | .ptr d => uptoBulk d + 1
  | .slice elems spare => uptoBulkAll elems + uptoBulkAll spare + 1
  | .agg parts => uptoBulkAll parts + 1
  | .iface _ d => uptoBulk d + 1
  | .map entries => uptoBulkEntries entries + 1
  | .held _ => 1
def uptoBulkAll {H : Type} : List (DataW H) → Nat
  | [] => 0
  | d :: r => uptoBulk d + uptoBulkAll r
def uptoBulkEntries {H : Type} : List (Lit × DataW H) → Nat
  | [] => 0
  | x :: r => uptoBulkEntry x + uptoBulkEntries r
def uptoBulkEntry {H : Type} : Lit × DataW H → Nat
  | (.string bytes, d) => bytes.length + uptoBulk d + 1
  | (_, d) => uptoBulk d + 1
 end
def uptoSmall : (H : Type) → List (DataW H) → Bool := fun _ ds => decide (uptoBulkAll ds ≤ 1048576)
def OpenSpec.upto (s : _root_.Go.ChangeSpec) : _root_.Go.OpenSpec := { _root_.Go.OpenSpec.ofChange s with cond := some uptoSmall }

/-- 'scarplaw10.AllocOnce', WHERE WHAT IT READS IS OF BULK AT MOST 1048576: true; the input reads as it did. -/
def allocOnceUptoRow : OpenClaim := { program := "ytmnkafplmbngnaa", sum := "0c5f744a614f593464d01d4d74b93eef59d3cf16172766e5baa1a959af9a43dc", func := "scarp/scarplaw10.AllocOnce", spec := "allocOnce", apart := false, narrowed := true }
def AllocOnceUptoSaid : Prop := allocOnceUptoRow.holds Try.pinned (OpenSpec.upto allocOnceSpec)

/-- 'scarplaw10.AllocEven', WHERE WHAT IT READS IS OF BULK AT MOST 1048576: true; the input reads as it did. -/
def allocEvenUptoRow : OpenClaim := { program := "ytmnkafplmbngnaa", sum := "0c5f744a614f593464d01d4d74b93eef59d3cf16172766e5baa1a959af9a43dc", func := "scarp/scarplaw10.AllocEven", spec := "allocEven", apart := false, narrowed := true }
def AllocEvenUptoSaid : Prop := allocEvenUptoRow.holds Try.pinned (OpenSpec.upto allocEvenSpec)

/-- 'scarplaw10.AllocPlays', WHERE WHAT IT READS IS OF BULK AT MOST 1048576: true; the input reads as it did. -/
def allocPlaysUptoRow : OpenClaim := { program := "ytmnkafplmbngnaa", sum := "0c5f744a614f593464d01d4d74b93eef59d3cf16172766e5baa1a959af9a43dc", func := "scarp/scarplaw10.AllocPlays", spec := "allocPlays", apart := false, narrowed := true }
def AllocPlaysUptoSaid : Prop := allocPlaysUptoRow.holds Try.pinned (OpenSpec.upto allocPlaysSpec)

/-- 'scarplaw10.AllocMarks', WHERE WHAT IT READS IS OF BULK AT MOST 1048576: true; the input reads as it did. -/
def allocMarksUptoRow : OpenClaim := { program := "ytmnkafplmbngnaa", sum := "0c5f744a614f593464d01d4d74b93eef59d3cf16172766e5baa1a959af9a43dc", func := "scarp/scarplaw10.AllocMarks", spec := "allocMarks", apart := false, narrowed := true }
def AllocMarksUptoSaid : Prop := allocMarksUptoRow.holds Try.pinned (OpenSpec.upto allocMarksSpec)

/-- 'scarplaw10.AllocNothing', WHERE WHAT IT READS IS OF BULK AT MOST 1048576: true; the input reads as it did. -/
def allocNothingUptoRow : OpenClaim := { program := "ytmnkafplmbngnaa", sum := "0c5f744a614f593464d01d4d74b93eef59d3cf16172766e5baa1a959af9a43dc", func := "scarp/scarplaw10.AllocNothing", spec := "allocNothing", apart := false, narrowed := true }
def AllocNothingUptoSaid : Prop := allocNothingUptoRow.holds Try.pinned (OpenSpec.upto allocNothingSpec)

end Rows
end Go.Proofs.Ytmnkafplmbngnaa
