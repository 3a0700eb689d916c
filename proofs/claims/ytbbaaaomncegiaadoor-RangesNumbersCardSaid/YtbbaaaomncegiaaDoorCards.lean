/-
  DERIVED. GIVEN WITH THE SEED: THE CARDS: each row of YtbbaaaomncegiaaDoorRows.lean that lists a variable, with what it lists TIED to the program's text (the seventh form; the later family's looks); each row that meets fmt, with fmt's text TOLD by the authors' own Lean function (tested against real Go, not proved from fmt's source: count such statements apart). THE CARD IS WHAT COUNTS. Prove the row's statement (the work); the ties are given (YtbbaaaomncegiaaDoorTie.lean); close each card by the builder's one call (the guide's Derived/Test/ToyasCard.lean, 'card_holds'). Laid BY PROGRAM, IN A SANDBOX (cutbox-door.mjs). By AI agents, Wed Nov 11 2026. No macro, syntax, notation, axiom, sorry.
-/
import Derived.Test.YtbbaaaomncegiaaDoorRows
import GoSem.ClaimSeven
namespace Go.Proofs.YtbbaaaomncegiaaDoor
namespace Rows

/-- THE TIED CARD OF 'gatefoldlaw32.RangesBack'. -/
def rangesBackCard : Claim7 := { stood := { row := rangesBackRow, standIns := [], harness := (true, "99db0fcf6d9bcafa5823ef566016c30c930e445be47845a9000854724f610b35"), looks := false }, kinds := [], alts := [], laidByText := true, laidKinds := [.data, .data, .data, .data, .pinned], laidTests := true, laidLooks := .later }
def RangesBackCardSaid : Prop := Claim7.holds Tryd.pinned (.plain (OpenSpec.ofChange rangesBackSpec)) rangesBackCard

/-- THE TIED CARD OF 'gatefoldlaw32.RangesNumbers'. -/
def rangesNumbersCard : Claim7 := { stood := { row := rangesNumbersRow, standIns := [], harness := (true, "99db0fcf6d9bcafa5823ef566016c30c930e445be47845a9000854724f610b35"), looks := false }, kinds := [], alts := [], laidByText := true, laidKinds := [.data, .data, .data, .data, .pinned], laidTests := true, laidLooks := .later }
def RangesNumbersCardSaid : Prop := Claim7.holds Tryd.pinned (.plain (OpenSpec.ofChange rangesNumbersSpec)) rangesNumbersCard

/-- THE SECOND FORM's CARD OF 'gatefoldlaw32.RangesBack'. -/
def rangesBackUptoCard : Claim7 := { stood := { row := rangesBackUptoRow, standIns := [], harness := (true, "99db0fcf6d9bcafa5823ef566016c30c930e445be47845a9000854724f610b35"), looks := false }, kinds := [], alts := [], laidByText := true, laidKinds := [.data, .data, .data, .data, .pinned], laidTests := true, laidLooks := .later }
def RangesBackUptoCardSaid : Prop := Claim7.holds Tryd.pinned (.plain (OpenSpec.upto rangesBackSpec)) rangesBackUptoCard

/-- THE SECOND FORM's CARD OF 'gatefoldlaw32.RangesNumbers'. -/
def rangesNumbersUptoCard : Claim7 := { stood := { row := rangesNumbersUptoRow, standIns := [], harness := (true, "99db0fcf6d9bcafa5823ef566016c30c930e445be47845a9000854724f610b35"), looks := false }, kinds := [], alts := [], laidByText := true, laidKinds := [.data, .data, .data, .data, .pinned], laidTests := true, laidLooks := .later }
def RangesNumbersUptoCardSaid : Prop := Claim7.holds Tryd.pinned (.plain (OpenSpec.upto rangesNumbersSpec)) rangesNumbersUptoCard
end Rows
end Go.Proofs.YtbbaaaomncegiaaDoor
