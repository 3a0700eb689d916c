/-
  DERIVED. GIVEN WITH THE SEED: THE CARDS: each row of YtloecpgfohhmlaaDoorRows.lean that lists a variable, with what it lists TIED to the program's text (the seventh form; the later family's looks); each row that meets fmt, with fmt's text TOLD by the authors' own Lean function (tested against real Go, not proved from fmt's source: count such statements apart). THE CARD IS WHAT COUNTS. Prove the row's statement (the work); the ties are given (YtloecpgfohhmlaaDoorTie.lean); close each card by the builder's one call (the guide's Derived/Test/ToyasCard.lean, 'card_holds'). Laid BY PROGRAM, IN A SANDBOX (cutbox-door.mjs). By AI agents, Wed Nov 11 2026. No macro, syntax, notation, axiom, sorry.
-/
import Derived.Test.YtloecpgfohhmlaaDoorRows
import GoSem.ClaimSeven
namespace Go.Proofs.YtloecpgfohhmlaaDoor
namespace Rows

/-- THE TIED CARD OF 'gatefoldlaw29.PrintWrites'. -/
def printWritesCard : Claim7 := { stood := { row := printWritesRow, standIns := [], harness := (true, "b0d498482daf1ba007a63ebe1a12369b8334b9c9dc61f559020d3cdbe2c91434"), looks := true }, kinds := [], alts := [], laidByText := true, laidKinds := [.data, .data, .data, .data, .pinned], laidTests := true, laidLooks := .later }
def PrintWritesCardSaid : Prop := Claim7.holds Tryd.pinned (.plain (OpenSpec.ofChange printWritesSpec)) printWritesCard

/-- THE TIED CARD OF 'gatefoldlaw29.PrintParses'. -/
def printParsesCard : Claim7 := { stood := { row := printParsesRow, standIns := [], harness := (true, "b0d498482daf1ba007a63ebe1a12369b8334b9c9dc61f559020d3cdbe2c91434"), looks := true }, kinds := [], alts := [], laidByText := true, laidKinds := [.data, .data, .data, .data, .pinned], laidTests := true, laidLooks := .later }
def PrintParsesCardSaid : Prop := Claim7.holds Tryd.pinned (.plain (OpenSpec.ofChange printParsesSpec)) printParsesCard

/-- THE TIED CARD OF 'gatefoldlaw29.PrintBack'. -/
def printBackCard : Claim7 := { stood := { row := printBackRow, standIns := [], harness := (true, "b0d498482daf1ba007a63ebe1a12369b8334b9c9dc61f559020d3cdbe2c91434"), looks := true }, kinds := [], alts := [], laidByText := true, laidKinds := [.data, .data, .data, .data, .pinned], laidTests := true, laidLooks := .later }
def PrintBackCardSaid : Prop := Claim7.holds Tryd.pinned (.plain (OpenSpec.ofChange printBackSpec)) printBackCard

/-- THE TIED CARD OF 'gatefoldlaw29.PrintParted'. -/
def printPartedCard : Claim7 := { stood := { row := printPartedRow, standIns := [], harness := (true, "b0d498482daf1ba007a63ebe1a12369b8334b9c9dc61f559020d3cdbe2c91434"), looks := true }, kinds := [], alts := [], laidByText := true, laidKinds := [.data, .data, .data, .data, .pinned], laidTests := true, laidLooks := .later }
def PrintPartedCardSaid : Prop := Claim7.holds Tryd.pinned (.plain (OpenSpec.ofChange printPartedSpec)) printPartedCard

/-- THE SECOND FORM's CARD OF 'gatefoldlaw29.PrintWrites'. -/
def printWritesUptoCard : Claim7 := { stood := { row := printWritesUptoRow, standIns := [], harness := (true, "b0d498482daf1ba007a63ebe1a12369b8334b9c9dc61f559020d3cdbe2c91434"), looks := true }, kinds := [], alts := [], laidByText := true, laidKinds := [.data, .data, .data, .data, .pinned], laidTests := true, laidLooks := .later }
def PrintWritesUptoCardSaid : Prop := Claim7.holds Tryd.pinned (.plain (OpenSpec.upto printWritesSpec)) printWritesUptoCard

/-- THE SECOND FORM's CARD OF 'gatefoldlaw29.PrintParses'. -/
def printParsesUptoCard : Claim7 := { stood := { row := printParsesUptoRow, standIns := [], harness := (true, "b0d498482daf1ba007a63ebe1a12369b8334b9c9dc61f559020d3cdbe2c91434"), looks := true }, kinds := [], alts := [], laidByText := true, laidKinds := [.data, .data, .data, .data, .pinned], laidTests := true, laidLooks := .later }
def PrintParsesUptoCardSaid : Prop := Claim7.holds Tryd.pinned (.plain (OpenSpec.upto printParsesSpec)) printParsesUptoCard

/-- THE SECOND FORM's CARD OF 'gatefoldlaw29.PrintBack'. -/
def printBackUptoCard : Claim7 := { stood := { row := printBackUptoRow, standIns := [], harness := (true, "b0d498482daf1ba007a63ebe1a12369b8334b9c9dc61f559020d3cdbe2c91434"), looks := true }, kinds := [], alts := [], laidByText := true, laidKinds := [.data, .data, .data, .data, .pinned], laidTests := true, laidLooks := .later }
def PrintBackUptoCardSaid : Prop := Claim7.holds Tryd.pinned (.plain (OpenSpec.upto printBackSpec)) printBackUptoCard

/-- THE SECOND FORM's CARD OF 'gatefoldlaw29.PrintParted'. -/
def printPartedUptoCard : Claim7 := { stood := { row := printPartedUptoRow, standIns := [], harness := (true, "b0d498482daf1ba007a63ebe1a12369b8334b9c9dc61f559020d3cdbe2c91434"), looks := true }, kinds := [], alts := [], laidByText := true, laidKinds := [.data, .data, .data, .data, .pinned], laidTests := true, laidLooks := .later }
def PrintPartedUptoCardSaid : Prop := Claim7.holds Tryd.pinned (.plain (OpenSpec.upto printPartedSpec)) printPartedUptoCard
end Rows
end Go.Proofs.YtloecpgfohhmlaaDoor
