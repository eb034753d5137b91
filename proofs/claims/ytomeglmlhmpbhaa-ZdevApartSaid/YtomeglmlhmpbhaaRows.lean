/-
  No cell of these rows narrows 'for every input' (looked for: loops, veiled, ifaces, maps, wideKeys, modest, calm, conditions, laid).
  DERIVED. THE GIVEN ROWS OF THIS SEAT. 9 by the template 'for every input the law returns true; each argument reads behind the call as it read before'; 0 by the template 'total and deterministic' (their statements: YtomeglmlhmpbhaaTotals.lean).
  GIVEN WITH THE SEED: the statements are not yours to turn. If you find one false, say at which input.
  Laid BY PROGRAM, IN A SANDBOX (cutbox-rows.mjs): the forced cells as the released guide's own fill.sh prints them over the translation 27d19a1c00e48c2a… (all of the seat's roots in one cut). By AI agents, Wed Nov 11 2026. No macro, syntax, notation, axiom, sorry.
-/
import Derived.Test.YtomeglmlhmpbhaaChecked
import GoSem.Claim
import GoSem.ClaimJoined
import GoSem.ClaimMapViews
import Derived.JoinedTies
import Derived.KernelRfl
namespace Go.Proofs.Ytomeglmlhmpbhaa
/- THE CELL 'sum', in the pinned program and in every row, IS THE sha256 OF THE DUMP (.gsa) THAT YtomeglmlhmpbhaaProg.lean LOADS. Nothing in Lean hashes anything: it is a label: what it is worth is what the hold of that sum in a sandbox is worth. -/
noncomputable def Try.pinned : Pinned := { name := "ytomeglmlhmpbhaa", sum := "27d19a1c00e48c2a303f201f260dcfbc0ead09ae88b95aadd2fa3aa2063f3fa5", checked := Try.checked }
namespace Rows
def none {H : Type} : Left H := { results := [], args := [] }

/-- 'scarplaw8.FrameLimits': WHATEVER THE INPUT: true; the input reads as it did. -/
def frameLimitsSpec : ChangeSpec := { name := "frameLimits", fn := fun _ => fun
  | [d1, d2, d3, d4, d5] => { results := [.lit (.bool true)], args := [d1, d2, d3, d4, d5] }
  | _ => none }
def frameLimitsRow : OpenClaim := { program := "ytomeglmlhmpbhaa", sum := "27d19a1c00e48c2a303f201f260dcfbc0ead09ae88b95aadd2fa3aa2063f3fa5", func := "scarp/scarplaw8.FrameLimits", spec := "frameLimits", unfollowed := true, recurses := true, apart := false }
def FrameLimitsSaid : Prop := frameLimitsRow.holds Try.pinned (OpenSpec.ofChange frameLimitsSpec)

/-- ITS FALSE NEIGHBOUR: 'it returns false'. Refute it at one input. -/
def frameLimitsWrong : ChangeSpec := { name := "frameLimits", fn := fun _ => fun
  | [d1, d2, d3, d4, d5] => { results := [.lit (.bool false)], args := [d1, d2, d3, d4, d5] }
  | _ => none }
def FrameLimitsWrongFalsely : Prop := frameLimitsRow.holds Try.pinned (OpenSpec.ofChange frameLimitsWrong)

/-- 'scarplaw8.FrameApart': WHATEVER THE INPUT: true; the input reads as it did. -/
def frameApartSpec : ChangeSpec := { name := "frameApart", fn := fun _ => fun
  | [d1, d2] => { results := [.lit (.bool true)], args := [d1, d2] }
  | _ => none }
def frameApartRow : OpenClaim := { program := "ytomeglmlhmpbhaa", sum := "27d19a1c00e48c2a303f201f260dcfbc0ead09ae88b95aadd2fa3aa2063f3fa5", func := "scarp/scarplaw8.FrameApart", spec := "frameApart", unfollowed := true, recurses := true, apart := false }
def FrameApartSaid : Prop := frameApartRow.holds Try.pinned (OpenSpec.ofChange frameApartSpec)

/-- ITS FALSE NEIGHBOUR: 'it returns false'. Refute it at one input. -/
def frameApartWrong : ChangeSpec := { name := "frameApart", fn := fun _ => fun
  | [d1, d2] => { results := [.lit (.bool false)], args := [d1, d2] }
  | _ => none }
def FrameApartWrongFalsely : Prop := frameApartRow.holds Try.pinned (OpenSpec.ofChange frameApartWrong)

/-- 'scarplaw9.ZdevZones': WHATEVER THE INPUT: true; the input reads as it did. -/
def zdevZonesSpec : ChangeSpec := { name := "zdevZones", fn := fun _ => fun
  | [d1, d2] => { results := [.lit (.bool true)], args := [d1, d2] }
  | _ => none }
def zdevZonesRow : OpenClaim := { program := "ytomeglmlhmpbhaa", sum := "27d19a1c00e48c2a303f201f260dcfbc0ead09ae88b95aadd2fa3aa2063f3fa5", func := "scarp/scarplaw9.ZdevZones", spec := "zdevZones", apart := false }
def ZdevZonesSaid : Prop := zdevZonesRow.holds Try.pinned (OpenSpec.ofChange zdevZonesSpec)

/-- ITS FALSE NEIGHBOUR: 'it returns false'. Refute it at one input. -/
def zdevZonesWrong : ChangeSpec := { name := "zdevZones", fn := fun _ => fun
  | [d1, d2] => { results := [.lit (.bool false)], args := [d1, d2] }
  | _ => none }
def ZdevZonesWrongFalsely : Prop := zdevZonesRow.holds Try.pinned (OpenSpec.ofChange zdevZonesWrong)

/-- 'scarplaw9.ZdevFull': WHATEVER THE INPUT: true; the input reads as it did. -/
def zdevFullSpec : ChangeSpec := { name := "zdevFull", fn := fun _ => fun
  | [d1, d2, d3] => { results := [.lit (.bool true)], args := [d1, d2, d3] }
  | _ => none }
def zdevFullRow : OpenClaim := { program := "ytomeglmlhmpbhaa", sum := "27d19a1c00e48c2a303f201f260dcfbc0ead09ae88b95aadd2fa3aa2063f3fa5", func := "scarp/scarplaw9.ZdevFull", spec := "zdevFull", apart := false }
def ZdevFullSaid : Prop := zdevFullRow.holds Try.pinned (OpenSpec.ofChange zdevFullSpec)

/-- ITS FALSE NEIGHBOUR: 'it returns false'. Refute it at one input. -/
def zdevFullWrong : ChangeSpec := { name := "zdevFull", fn := fun _ => fun
  | [d1, d2, d3] => { results := [.lit (.bool false)], args := [d1, d2, d3] }
  | _ => none }
def ZdevFullWrongFalsely : Prop := zdevFullRow.holds Try.pinned (OpenSpec.ofChange zdevFullWrong)

/-- 'scarplaw8.FrameCodes': WHATEVER THE INPUT: true; the input reads as it did. -/
def frameCodesSpec : ChangeSpec := { name := "frameCodes", fn := fun _ => fun
  | [d1, d2] => { results := [.lit (.bool true)], args := [d1, d2] }
  | _ => none }
def frameCodesRow : OpenClaim := { program := "ytomeglmlhmpbhaa", sum := "27d19a1c00e48c2a303f201f260dcfbc0ead09ae88b95aadd2fa3aa2063f3fa5", func := "scarp/scarplaw8.FrameCodes", spec := "frameCodes", unfollowed := true, recurses := true, apart := false }
def FrameCodesSaid : Prop := frameCodesRow.holds Try.pinned (OpenSpec.ofChange frameCodesSpec)

/-- ITS FALSE NEIGHBOUR: 'it returns false'. Refute it at one input. -/
def frameCodesWrong : ChangeSpec := { name := "frameCodes", fn := fun _ => fun
  | [d1, d2] => { results := [.lit (.bool false)], args := [d1, d2] }
  | _ => none }
def FrameCodesWrongFalsely : Prop := frameCodesRow.holds Try.pinned (OpenSpec.ofChange frameCodesWrong)

/-- 'scarplaw8.FrameBack': WHATEVER THE INPUT: true; the input reads as it did. -/
def frameBackSpec : ChangeSpec := { name := "frameBack", fn := fun _ => fun
  | [d1, d2, d3] => { results := [.lit (.bool true)], args := [d1, d2, d3] }
  | _ => none }
def frameBackRow : OpenClaim := { program := "ytomeglmlhmpbhaa", sum := "27d19a1c00e48c2a303f201f260dcfbc0ead09ae88b95aadd2fa3aa2063f3fa5", func := "scarp/scarplaw8.FrameBack", spec := "frameBack", unfollowed := true, recurses := true, apart := false }
def FrameBackSaid : Prop := frameBackRow.holds Try.pinned (OpenSpec.ofChange frameBackSpec)

/-- ITS FALSE NEIGHBOUR: 'it returns false'. Refute it at one input. -/
def frameBackWrong : ChangeSpec := { name := "frameBack", fn := fun _ => fun
  | [d1, d2, d3] => { results := [.lit (.bool false)], args := [d1, d2, d3] }
  | _ => none }
def FrameBackWrongFalsely : Prop := frameBackRow.holds Try.pinned (OpenSpec.ofChange frameBackWrong)

/-- 'scarplaw8.FrameTorn': WHATEVER THE INPUT: true; the input reads as it did. -/
def frameTornSpec : ChangeSpec := { name := "frameTorn", fn := fun _ => fun
  | [d] => { results := [.lit (.bool true)], args := [d] }
  | _ => none }
def frameTornRow : OpenClaim := { program := "ytomeglmlhmpbhaa", sum := "27d19a1c00e48c2a303f201f260dcfbc0ead09ae88b95aadd2fa3aa2063f3fa5", func := "scarp/scarplaw8.FrameTorn", spec := "frameTorn", unfollowed := true, recurses := true, apart := false }
def FrameTornSaid : Prop := frameTornRow.holds Try.pinned (OpenSpec.ofChange frameTornSpec)

/-- ITS FALSE NEIGHBOUR: 'it returns false'. Refute it at one input. -/
def frameTornWrong : ChangeSpec := { name := "frameTorn", fn := fun _ => fun
  | [d] => { results := [.lit (.bool false)], args := [d] }
  | _ => none }
def FrameTornWrongFalsely : Prop := frameTornRow.holds Try.pinned (OpenSpec.ofChange frameTornWrong)

/-- 'scarplaw9.ZdevNothing': WHATEVER THE INPUT: true; the input reads as it did. -/
def zdevNothingSpec : ChangeSpec := { name := "zdevNothing", fn := fun _ => fun
  | [d1, d2] => { results := [.lit (.bool true)], args := [d1, d2] }
  | _ => none }
def zdevNothingRow : OpenClaim := { program := "ytomeglmlhmpbhaa", sum := "27d19a1c00e48c2a303f201f260dcfbc0ead09ae88b95aadd2fa3aa2063f3fa5", func := "scarp/scarplaw9.ZdevNothing", spec := "zdevNothing", apart := false }
def ZdevNothingSaid : Prop := zdevNothingRow.holds Try.pinned (OpenSpec.ofChange zdevNothingSpec)

/-- ITS FALSE NEIGHBOUR: 'it returns false'. Refute it at one input. -/
def zdevNothingWrong : ChangeSpec := { name := "zdevNothing", fn := fun _ => fun
  | [d1, d2] => { results := [.lit (.bool false)], args := [d1, d2] }
  | _ => none }
def ZdevNothingWrongFalsely : Prop := zdevNothingRow.holds Try.pinned (OpenSpec.ofChange zdevNothingWrong)

/-- 'scarplaw9.ZdevApart': WHATEVER THE INPUT: true; the input reads as it did. -/
def zdevApartSpec : ChangeSpec := { name := "zdevApart", fn := fun _ => fun
  | [d1, d2] => { results := [.lit (.bool true)], args := [d1, d2] }
  | _ => none }
def zdevApartRow : OpenClaim := { program := "ytomeglmlhmpbhaa", sum := "27d19a1c00e48c2a303f201f260dcfbc0ead09ae88b95aadd2fa3aa2063f3fa5", func := "scarp/scarplaw9.ZdevApart", spec := "zdevApart", apart := false }
def ZdevApartSaid : Prop := zdevApartRow.holds Try.pinned (OpenSpec.ofChange zdevApartSpec)

/-- ITS FALSE NEIGHBOUR: 'it returns false'. Refute it at one input. -/
def zdevApartWrong : ChangeSpec := { name := "zdevApart", fn := fun _ => fun
  | [d1, d2] => { results := [.lit (.bool false)], args := [d1, d2] }
  | _ => none }
def ZdevApartWrongFalsely : Prop := zdevApartRow.holds Try.pinned (OpenSpec.ofChange zdevApartWrong)

/- THE SECOND FORM. 'bulk': how many values and letters a reading holds, each counted each time it is reached (what is shared counts as often as it is met; a slice's spare places count too). A statement '..UptoSaid' is the law's where the arguments, and the package variables that the reading takes, are together of bulk at most 1048576: NARROWER than '..Said'. Prove '..Said' where nothing that the law and all that it calls make is longer than what came in: it says more and counts as full. Else prove '..UptoSaid'. A law counts once. -/
mutual
def uptoBulk {H : Type} : DataW H → Nat
  | .lit (.string bytes) => bytes.length + 1
  | .lit _ => 1
  | .nil => 1
  | .ptr d => uptoBulk d + 1
  | .slice elems spare => uptoBulkAll elems + uptoBulkAll spare + 1
  | .agg parts => uptoBulkAll parts + 1
  | .iface _ d => uptoBulk d + 1
  | .map entries => uptoBulkEntries entries + 1
  | .held _ => 1
def uptoBulkAll {H : Type} : List (DataW H) → Nat
  | [] => 0
  | d :: r => uptoBulk d + uptoBulkAll r
def uptoBulkEntries {H : Type} : List (Lit × DataW H) → Nat
  | [] => 0
  | x :: r => uptoBulkEntry x + uptoBulkEntries r
def uptoBulkEntry {H : Type} : Lit × DataW H → Nat
  | (.string bytes, d) => bytes.length + uptoBulk d + 1
  | (_, d) => uptoBulk d + 1
 end
def uptoSmall : (H : Type) → List (DataW H) → Bool := fun _ ds => decide (uptoBulkAll ds ≤ 1048576)
def OpenSpec.upto (s : _root_.Go.ChangeSpec) : _root_.Go.OpenSpec := { _root_.Go.OpenSpec.ofChange s with cond := some uptoSmall }

/-- 'scarplaw8.FrameLimits', WHERE WHAT IT READS IS OF BULK AT MOST 1048576: true; the input reads as it did. -/
def frameLimitsUptoRow : OpenClaim := { program := "ytomeglmlhmpbhaa", sum := "27d19a1c00e48c2a303f201f260dcfbc0ead09ae88b95aadd2fa3aa2063f3fa5", func := "scarp/scarplaw8.FrameLimits", spec := "frameLimits", unfollowed := true, recurses := true, apart := false, narrowed := true }
def FrameLimitsUptoSaid : Prop := frameLimitsUptoRow.holds Try.pinned (OpenSpec.upto frameLimitsSpec)

/-- 'scarplaw8.FrameApart', WHERE WHAT IT READS IS OF BULK AT MOST 1048576: true; the input reads as it did. -/
def frameApartUptoRow : OpenClaim := { program := "ytomeglmlhmpbhaa", sum := "27d19a1c00e48c2a303f201f260dcfbc0ead09ae88b95aadd2fa3aa2063f3fa5", func := "scarp/scarplaw8.FrameApart", spec := "frameApart", unfollowed := true, recurses := true, apart := false, narrowed := true }
def FrameApartUptoSaid : Prop := frameApartUptoRow.holds Try.pinned (OpenSpec.upto frameApartSpec)

/-- 'scarplaw9.ZdevZones', WHERE WHAT IT READS IS OF BULK AT MOST 1048576: true; the input reads as it did. -/
def zdevZonesUptoRow : OpenClaim := { program := "ytomeglmlhmpbhaa", sum := "27d19a1c00e48c2a303f201f260dcfbc0ead09ae88b95aadd2fa3aa2063f3fa5", func := "scarp/scarplaw9.ZdevZones", spec := "zdevZones", apart := false, narrowed := true }
def ZdevZonesUptoSaid : Prop := zdevZonesUptoRow.holds Try.pinned (OpenSpec.upto zdevZonesSpec)

/-- 'scarplaw9.ZdevFull', WHERE WHAT IT READS IS OF BULK AT MOST 1048576: true; the input reads as it did. -/
def zdevFullUptoRow : OpenClaim := { program := "ytomeglmlhmpbhaa", sum := "27d19a1c00e48c2a303f201f260dcfbc0ead09ae88b95aadd2fa3aa2063f3fa5", func := "scarp/scarplaw9.ZdevFull", spec := "zdevFull", apart := false, narrowed := true }
def ZdevFullUptoSaid : Prop := zdevFullUptoRow.holds Try.pinned (OpenSpec.upto zdevFullSpec)

/-- 'scarplaw8.FrameCodes', WHERE WHAT IT READS IS OF BULK AT MOST 1048576: true; the input reads as it did. -/
def frameCodesUptoRow : OpenClaim := { program := "ytomeglmlhmpbhaa", sum := "27d19a1c00e48c2a303f201f260dcfbc0ead09ae88b95aadd2fa3aa2063f3fa5", func := "scarp/scarplaw8.FrameCodes", spec := "frameCodes", unfollowed := true, recurses := true, apart := false, narrowed := true }
def FrameCodesUptoSaid : Prop := frameCodesUptoRow.holds Try.pinned (OpenSpec.upto frameCodesSpec)

/-- 'scarplaw8.FrameBack', WHERE WHAT IT READS IS OF BULK AT MOST 1048576: true; the input reads as it did. -/
def frameBackUptoRow : OpenClaim := { program := "ytomeglmlhmpbhaa", sum := "27d19a1c00e48c2a303f201f260dcfbc0ead09ae88b95aadd2fa3aa2063f3fa5", func := "scarp/scarplaw8.FrameBack", spec := "frameBack", unfollowed := true, recurses := true, apart := false, narrowed := true }
def FrameBackUptoSaid : Prop := frameBackUptoRow.holds Try.pinned (OpenSpec.upto frameBackSpec)

/-- 'scarplaw8.FrameTorn', WHERE WHAT IT READS IS OF BULK AT MOST 1048576: true; the input reads as it did. -/
def frameTornUptoRow : OpenClaim := { program := "ytomeglmlhmpbhaa", sum := "27d19a1c00e48c2a303f201f260dcfbc0ead09ae88b95aadd2fa3aa2063f3fa5", func := "scarp/scarplaw8.FrameTorn", spec := "frameTorn", unfollowed := true, recurses := true, apart := false, narrowed := true }
def FrameTornUptoSaid : Prop := frameTornUptoRow.holds Try.pinned (OpenSpec.upto frameTornSpec)

/-- 'scarplaw9.ZdevNothing', WHERE WHAT IT READS IS OF BULK AT MOST 1048576: true; the input reads as it did. -/
def zdevNothingUptoRow : OpenClaim := { program := "ytomeglmlhmpbhaa", sum := "27d19a1c00e48c2a303f201f260dcfbc0ead09ae88b95aadd2fa3aa2063f3fa5", func := "scarp/scarplaw9.ZdevNothing", spec := "zdevNothing", apart := false, narrowed := true }
def ZdevNothingUptoSaid : Prop := zdevNothingUptoRow.holds Try.pinned (OpenSpec.upto zdevNothingSpec)

/-- 'scarplaw9.ZdevApart', WHERE WHAT IT READS IS OF BULK AT MOST 1048576: true; the input reads as it did. -/
def zdevApartUptoRow : OpenClaim := { program := "ytomeglmlhmpbhaa", sum := "27d19a1c00e48c2a303f201f260dcfbc0ead09ae88b95aadd2fa3aa2063f3fa5", func := "scarp/scarplaw9.ZdevApart", spec := "zdevApart", apart := false, narrowed := true }
def ZdevApartUptoSaid : Prop := zdevApartUptoRow.holds Try.pinned (OpenSpec.upto zdevApartSpec)

end Rows
end Go.Proofs.Ytomeglmlhmpbhaa
