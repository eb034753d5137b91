/-
  No cell of these rows narrows 'for every input' (looked for: loops, veiled, ifaces, maps, wideKeys, modest, calm, conditions, laid).
  DERIVED. THE GIVEN ROWS OF THIS SEAT. 5 by the template 'for every input the law returns true; each argument reads behind the call as it read before'; 0 by the template 'total and deterministic' (their statements: YtippdkokbhejmaaTotals.lean).
  GIVEN WITH THE SEED: the statements are not yours to turn. If you find one false, say at which input.
  Laid BY PROGRAM, IN A SANDBOX (cutbox-rows.mjs): the forced cells as the released guide's own fill.sh prints them over the translation fcba6f0c06430955… (all of the seat's roots in one cut). By AI agents, Wed Nov 11 2026. No macro, syntax, notation, axiom, sorry.
-/
import Derived.Test.YtippdkokbhejmaaChecked
import GoSem.Claim
import GoSem.ClaimJoined
import GoSem.ClaimMapViews
import Derived.JoinedTies
import Derived.KernelRfl
namespace Go.Proofs.Ytippdkokbhejmaa
/- THE CELL 'sum', in the pinned program and in every row, IS THE sha256 OF THE DUMP (.gsa) THAT YtippdkokbhejmaaProg.lean LOADS. Nothing in Lean hashes anything: it is a label: what it is worth is what the hold of that sum in a sandbox is worth. -/
noncomputable def Try.pinned : Pinned := { name := "ytippdkokbhejmaa", sum := "fcba6f0c06430955ca92853bee421e2d487bc8bbc25f976383c6e1ceabccda54", checked := Try.checked }
namespace Rows
def none {H : Type} : Left H := { results := [], args := [] }

/-- 'scarplaw18.SeglogPlays': WHATEVER THE INPUT: true; the input reads as it did. -/
def seglogPlaysSpec : ChangeSpec := { name := "seglogPlays", fn := fun _ => fun
  | [d1, d2, d3] => { results := [.lit (.bool true)], args := [d1, d2, d3] }
  | _ => none }
def seglogPlaysRow : OpenClaim := { program := "ytippdkokbhejmaa", sum := "fcba6f0c06430955ca92853bee421e2d487bc8bbc25f976383c6e1ceabccda54", func := "scarp/scarplaw18.SeglogPlays", spec := "seglogPlays", unfollowed := true, recurses := true, apart := false }
def SeglogPlaysSaid : Prop := seglogPlaysRow.holds Try.pinned (OpenSpec.ofChange seglogPlaysSpec)

/-- ITS FALSE NEIGHBOUR: 'it returns false'. Refute it at one input. -/
def seglogPlaysWrong : ChangeSpec := { name := "seglogPlays", fn := fun _ => fun
  | [d1, d2, d3] => { results := [.lit (.bool false)], args := [d1, d2, d3] }
  | _ => none }
def SeglogPlaysWrongFalsely : Prop := seglogPlaysRow.holds Try.pinned (OpenSpec.ofChange seglogPlaysWrong)

/-- 'scarplaw18.SeglogTurns': WHATEVER THE INPUT: true; the input reads as it did. -/
def seglogTurnsSpec : ChangeSpec := { name := "seglogTurns", fn := fun _ => fun
  | [d1, d2, d3] => { results := [.lit (.bool true)], args := [d1, d2, d3] }
  | _ => none }
def seglogTurnsRow : OpenClaim := { program := "ytippdkokbhejmaa", sum := "fcba6f0c06430955ca92853bee421e2d487bc8bbc25f976383c6e1ceabccda54", func := "scarp/scarplaw18.SeglogTurns", spec := "seglogTurns", unfollowed := true, recurses := true, apart := false }
def SeglogTurnsSaid : Prop := seglogTurnsRow.holds Try.pinned (OpenSpec.ofChange seglogTurnsSpec)

/-- ITS FALSE NEIGHBOUR: 'it returns false'. Refute it at one input. -/
def seglogTurnsWrong : ChangeSpec := { name := "seglogTurns", fn := fun _ => fun
  | [d1, d2, d3] => { results := [.lit (.bool false)], args := [d1, d2, d3] }
  | _ => none }
def SeglogTurnsWrongFalsely : Prop := seglogTurnsRow.holds Try.pinned (OpenSpec.ofChange seglogTurnsWrong)

/-- 'scarplaw18.SeglogLimits': WHATEVER THE INPUT: true; the input reads as it did. -/
def seglogLimitsSpec : ChangeSpec := { name := "seglogLimits", fn := fun _ => fun
  | [d1, d2, d3, d4] => { results := [.lit (.bool true)], args := [d1, d2, d3, d4] }
  | _ => none }
def seglogLimitsRow : OpenClaim := { program := "ytippdkokbhejmaa", sum := "fcba6f0c06430955ca92853bee421e2d487bc8bbc25f976383c6e1ceabccda54", func := "scarp/scarplaw18.SeglogLimits", spec := "seglogLimits", unfollowed := true, recurses := true, apart := false }
def SeglogLimitsSaid : Prop := seglogLimitsRow.holds Try.pinned (OpenSpec.ofChange seglogLimitsSpec)

/-- ITS FALSE NEIGHBOUR: 'it returns false'. Refute it at one input. -/
def seglogLimitsWrong : ChangeSpec := { name := "seglogLimits", fn := fun _ => fun
  | [d1, d2, d3, d4] => { results := [.lit (.bool false)], args := [d1, d2, d3, d4] }
  | _ => none }
def SeglogLimitsWrongFalsely : Prop := seglogLimitsRow.holds Try.pinned (OpenSpec.ofChange seglogLimitsWrong)

/-- 'scarplaw18.SeglogApart': WHATEVER THE INPUT: true; the input reads as it did. -/
def seglogApartSpec : ChangeSpec := { name := "seglogApart", fn := fun _ => fun
  | [d1, d2] => { results := [.lit (.bool true)], args := [d1, d2] }
  | _ => none }
def seglogApartRow : OpenClaim := { program := "ytippdkokbhejmaa", sum := "fcba6f0c06430955ca92853bee421e2d487bc8bbc25f976383c6e1ceabccda54", func := "scarp/scarplaw18.SeglogApart", spec := "seglogApart", unfollowed := true, recurses := true, apart := false }
def SeglogApartSaid : Prop := seglogApartRow.holds Try.pinned (OpenSpec.ofChange seglogApartSpec)

/-- ITS FALSE NEIGHBOUR: 'it returns false'. Refute it at one input. -/
def seglogApartWrong : ChangeSpec := { name := "seglogApart", fn := fun _ => fun
  | [d1, d2] => { results := [.lit (.bool false)], args := [d1, d2] }
  | _ => none }
def SeglogApartWrongFalsely : Prop := seglogApartRow.holds Try.pinned (OpenSpec.ofChange seglogApartWrong)

/-- 'scarplaw18.SeglogCrash': WHATEVER THE INPUT: true; the input reads as it did. -/
def seglogCrashSpec : ChangeSpec := { name := "seglogCrash", fn := fun _ => fun
  | [d1, d2, d3, d4, d5] => { results := [.lit (.bool true)], args := [d1, d2, d3, d4, d5] }
  | _ => none }
def seglogCrashRow : OpenClaim := { program := "ytippdkokbhejmaa", sum := "fcba6f0c06430955ca92853bee421e2d487bc8bbc25f976383c6e1ceabccda54", func := "scarp/scarplaw18.SeglogCrash", spec := "seglogCrash", unfollowed := true, recurses := true, apart := false }
def SeglogCrashSaid : Prop := seglogCrashRow.holds Try.pinned (OpenSpec.ofChange seglogCrashSpec)

/-- ITS FALSE NEIGHBOUR: 'it returns false'. Refute it at one input. -/
def seglogCrashWrong : ChangeSpec := { name := "seglogCrash", fn := fun _ => fun
  | [d1, d2, d3, d4, d5] => { results := [.lit (.bool false)], args := [d1, d2, d3, d4, d5] }
  | _ => none }
def SeglogCrashWrongFalsely : Prop := seglogCrashRow.holds Try.pinned (OpenSpec.ofChange seglogCrashWrong)

/- THE SECOND FORM. 'bulk': how many values and letters a reading holds, each counted each time it is reached (what is shared counts as often as it is met; a slice's spare places count too). A statement '..UptoSaid' is the law's where the arguments, and the package variables that the reading takes, are together of bulk at most 1048576: NARROWER than '..Said'. Prove '..Said' where nothing that the law and all that it calls make is longer than what came in: it says more and counts as full. Else prove '..UptoSaid'. A law counts once. -/
mutual
def uptoBulk {H : Type} : DataW H → Nat
  | .lit (.string bytes) => bytes.length + 1
  | .lit _ => 1
  | .nil => 1
  | .ptr d => uptoBulk d + 1
  | .slice elems spare => uptoBulkAll elems + uptoBulkAll spare + 1
  | .agg parts => uptoBulkAll parts + 1
  | .iface _ d => uptoBulk d + 1
  | .map entries => uptoBulkEntries entries + 1
  | .held _ => 1
def uptoBulkAll {H : Type} : List (DataW H) → Nat
  | [] => 0
  | d :: r => uptoBulk d + uptoBulkAll r
def uptoBulkEntries {H : Type} : List (Lit × DataW H) → Nat
  | [] => 0
  | x :: r => uptoBulkEntry x + uptoBulkEntries r
def uptoBulkEntry {H : Type} : Lit × DataW H → Nat
  | (.string bytes, d) => bytes.length + uptoBulk d + 1
  | (_, d) => uptoBulk d + 1
 end
def uptoSmall : (H : Type) → List (DataW H) → Bool := fun _ ds => decide (uptoBulkAll ds ≤ 1048576)
def OpenSpec.upto (s : _root_.Go.ChangeSpec) : _root_.Go.OpenSpec := { _root_.Go.OpenSpec.ofChange s with cond := some uptoSmall }

/-- 'scarplaw18.SeglogPlays', WHERE WHAT IT READS IS OF BULK AT MOST 1048576: true; the input reads as it did. -/
def seglogPlaysUptoRow : OpenClaim := { program := "ytippdkokbhejmaa", sum := "fcba6f0c06430955ca92853bee421e2d487bc8bbc25f976383c6e1ceabccda54", func := "scarp/scarplaw18.SeglogPlays", spec := "seglogPlays", unfollowed := true, recurses := true, apart := false, narrowed := true }
def SeglogPlaysUptoSaid : Prop := seglogPlaysUptoRow.holds Try.pinned (OpenSpec.upto seglogPlaysSpec)

/-- 'scarplaw18.SeglogTurns', WHERE WHAT IT READS IS OF BULK AT MOST 1048576: true; the input reads as it did. -/
def seglogTurnsUptoRow : OpenClaim := { program := "ytippdkokbhejmaa", sum := "fcba6f0c06430955ca92853bee421e2d487bc8bbc25f976383c6e1ceabccda54", func := "scarp/scarplaw18.SeglogTurns", spec := "seglogTurns", unfollowed := true, recurses := true, apart := false, narrowed := true }
def SeglogTurnsUptoSaid : Prop := seglogTurnsUptoRow.holds Try.pinned (OpenSpec.upto seglogTurnsSpec)

/-- 'scarplaw18.SeglogLimits', WHERE WHAT IT READS IS OF BULK AT MOST 1048576: true; the input reads as it did. -/
def seglogLimitsUptoRow : OpenClaim := { program := "ytippdkokbhejmaa", sum := "fcba6f0c06430955ca92853bee421e2d487bc8bbc25f976383c6e1ceabccda54", func := "scarp/scarplaw18.SeglogLimits", spec := "seglogLimits", unfollowed := true, recurses := true, apart := false, narrowed := true }
def SeglogLimitsUptoSaid : Prop := seglogLimitsUptoRow.holds Try.pinned (OpenSpec.upto seglogLimitsSpec)

/-- 'scarplaw18.SeglogApart', WHERE WHAT IT READS IS OF BULK AT MOST 1048576: true; the input reads as it did. -/
def seglogApartUptoRow : OpenClaim := { program := "ytippdkokbhejmaa", sum := "fcba6f0c06430955ca92853bee421e2d487bc8bbc25f976383c6e1ceabccda54", func := "scarp/scarplaw18.SeglogApart", spec := "seglogApart", unfollowed := true, recurses := true, apart := false, narrowed := true }
def SeglogApartUptoSaid : Prop := seglogApartUptoRow.holds Try.pinned (OpenSpec.upto seglogApartSpec)

/-- 'scarplaw18.SeglogCrash', WHERE WHAT IT READS IS OF BULK AT MOST 1048576: true; the input reads as it did. -/
def seglogCrashUptoRow : OpenClaim := { program := "ytippdkokbhejmaa", sum := "fcba6f0c06430955ca92853bee421e2d487bc8bbc25f976383c6e1ceabccda54", func := "scarp/scarplaw18.SeglogCrash", spec := "seglogCrash", unfollowed := true, recurses := true, apart := false, narrowed := true }
def SeglogCrashUptoSaid : Prop := seglogCrashUptoRow.holds Try.pinned (OpenSpec.upto seglogCrashSpec)

end Rows
end Go.Proofs.Ytippdkokbhejmaa
