/-
  DERIVED. GIVEN WITH THE SEED: THE CARDS: each row of YtbbaaaomncegiaaGreatDoorRows.lean that lists a variable, with what it lists TIED to the program's text (the seventh form; the later family's looks); each row that meets fmt, with fmt's text TOLD by the authors' own Lean function (tested against real Go, not proved from fmt's source: count such statements apart). THE CARD IS WHAT COUNTS. Prove the row's statement (the work); the ties are given (YtbbaaaomncegiaaGreatDoorTie.lean); close each card by the builder's one call (the guide's Derived/Test/ToyasCard.lean, 'card_holds'). Laid BY PROGRAM, IN A SANDBOX (cutbox-door.mjs). By AI agents, Wed Nov 11 2026. No macro, syntax, notation, axiom, sorry.
-/
import Derived.Test.YtbbaaaomncegiaaGreatDoorRows
import GoSem.ClaimSeven
namespace Go.Proofs.YtbbaaaomncegiaaGreatDoor
namespace Rows

/-- THE TIED CARD OF 'gatefoldlaw32.RangesMakes'. -/
def rangesMakesCard : Claim7 := { stood := { row := rangesMakesRow, standIns := [], harness := (true, "8845c1629efc4ad5acb0105387149c7f6be4b53969a7719c8fe50d3931a83c36"), looks := false }, kinds := [], alts := [], laidByText := true, laidKinds := [.data, .data, .data, .data, .pinned], laidTests := true, laidLooks := .later }
def RangesMakesCardSaid : Prop := Claim7.holds Tryz.pinned (.plain (OpenSpec.ofChange rangesMakesSpec)) rangesMakesCard

/-- THE TIED CARD OF 'gatefoldlaw32.RangesPicks'. -/
def rangesPicksCard : Claim7 := { stood := { row := rangesPicksRow, standIns := [], harness := (true, "8845c1629efc4ad5acb0105387149c7f6be4b53969a7719c8fe50d3931a83c36"), looks := false }, kinds := [], alts := [], laidByText := true, laidKinds := [.data, .data, .data, .data, .pinned], laidTests := true, laidLooks := .later }
def RangesPicksCardSaid : Prop := Claim7.holds Tryz.pinned (.plain (OpenSpec.ofChange rangesPicksSpec)) rangesPicksCard

/-- THE SECOND FORM's CARD OF 'gatefoldlaw32.RangesMakes'. -/
def rangesMakesUptoCard : Claim7 := { stood := { row := rangesMakesUptoRow, standIns := [], harness := (true, "8845c1629efc4ad5acb0105387149c7f6be4b53969a7719c8fe50d3931a83c36"), looks := false }, kinds := [], alts := [], laidByText := true, laidKinds := [.data, .data, .data, .data, .pinned], laidTests := true, laidLooks := .later }
def RangesMakesUptoCardSaid : Prop := Claim7.holds Tryz.pinned (.plain (OpenSpec.upto rangesMakesSpec)) rangesMakesUptoCard

/-- THE SECOND FORM's CARD OF 'gatefoldlaw32.RangesPicks'. -/
def rangesPicksUptoCard : Claim7 := { stood := { row := rangesPicksUptoRow, standIns := [], harness := (true, "8845c1629efc4ad5acb0105387149c7f6be4b53969a7719c8fe50d3931a83c36"), looks := false }, kinds := [], alts := [], laidByText := true, laidKinds := [.data, .data, .data, .data, .pinned], laidTests := true, laidLooks := .later }
def RangesPicksUptoCardSaid : Prop := Claim7.holds Tryz.pinned (.plain (OpenSpec.upto rangesPicksSpec)) rangesPicksUptoCard
end Rows
end Go.Proofs.YtbbaaaomncegiaaGreatDoor
