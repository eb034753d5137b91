/-
  DERIVED. GIVEN WITH THE SEED: THE CARDS: each row of YtdpdkpfnfllipaaGreatDoorRows.lean that lists a variable, with what it lists TIED to the program's text (the seventh form; the later family's looks); each row that meets fmt, with fmt's text TOLD by the authors' own Lean function (tested against real Go, not proved from fmt's source: count such statements apart). THE CARD IS WHAT COUNTS. Prove the row's statement (the work); the ties are given (YtdpdkpfnfllipaaGreatDoorTie.lean); close each card by the builder's one call (the guide's Derived/Test/ToyasCard.lean, 'card_holds'). Laid BY PROGRAM, IN A SANDBOX (cutbox-door.mjs). By AI agents, Wed Nov 11 2026. No macro, syntax, notation, axiom, sorry.
-/
import Derived.Test.YtdpdkpfnfllipaaGreatDoorRows
import GoSem.ClaimSeven
namespace Go.Proofs.YtdpdkpfnfllipaaGreatDoor
namespace Rows

/-- THE TIED CARD OF 'scarptop.TopNever'. -/
def topNeverCard : Claim7 := { stood := { row := topNeverRow, standIns := [], harness := (true, "ad9e0eb179ba3f7773ab42ed2a21cfb5e9c5f891f61f948dbb263995f6833716"), looks := true }, kinds := [], alts := [], laidByText := true, laidKinds := [.data, .data, .data, .data, .sentinel, .sentinel, .pinned], laidTests := true, laidLooks := .later }
def TopNeverCardSaid : Prop := Claim7.holds Tryz.pinned (.plain (OpenSpec.ofChange topNeverSpec)) topNeverCard

/-- THE TIED CARD OF 'scarptop.TopEnds'. -/
def topEndsCard : Claim7 := { stood := { row := topEndsRow, standIns := [], harness := (true, "ad9e0eb179ba3f7773ab42ed2a21cfb5e9c5f891f61f948dbb263995f6833716"), looks := true }, kinds := [], alts := [], laidByText := true, laidKinds := [.data, .data, .data, .data, .sentinel, .sentinel, .pinned], laidTests := true, laidLooks := .later }
def TopEndsCardSaid : Prop := Claim7.holds Tryz.pinned (.plain (OpenSpec.ofChange topEndsSpec)) topEndsCard

/-- THE SECOND FORM's CARD OF 'scarptop.TopNever'. -/
def topNeverUptoCard : Claim7 := { stood := { row := topNeverUptoRow, standIns := [], harness := (true, "ad9e0eb179ba3f7773ab42ed2a21cfb5e9c5f891f61f948dbb263995f6833716"), looks := true }, kinds := [], alts := [], laidByText := true, laidKinds := [.data, .data, .data, .data, .sentinel, .sentinel, .pinned], laidTests := true, laidLooks := .later }
def TopNeverUptoCardSaid : Prop := Claim7.holds Tryz.pinned (.plain (OpenSpec.upto topNeverSpec)) topNeverUptoCard

/-- THE SECOND FORM's CARD OF 'scarptop.TopEnds'. -/
def topEndsUptoCard : Claim7 := { stood := { row := topEndsUptoRow, standIns := [], harness := (true, "ad9e0eb179ba3f7773ab42ed2a21cfb5e9c5f891f61f948dbb263995f6833716"), looks := true }, kinds := [], alts := [], laidByText := true, laidKinds := [.data, .data, .data, .data, .sentinel, .sentinel, .pinned], laidTests := true, laidLooks := .later }
def TopEndsUptoCardSaid : Prop := Claim7.holds Tryz.pinned (.plain (OpenSpec.upto topEndsSpec)) topEndsUptoCard
end Rows
end Go.Proofs.YtdpdkpfnfllipaaGreatDoor
