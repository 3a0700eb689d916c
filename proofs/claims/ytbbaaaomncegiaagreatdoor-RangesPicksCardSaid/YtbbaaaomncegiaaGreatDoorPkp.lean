/-
  What every row of this seat has from its condition: the table that strconv reads, the cell of MaxLen; what where it lies.
-/
import Derived.Test.YtbbaaaomncegiaaGreatDoorRows
import Derived.Test.YtbbaaaomncegiaaGreatDoorCards
import Derived.Test.YtbbaaaomncegiaaGreatDoorTie
import Derived.Test.YtbbaaaomncegiaaGreatDoorOpn
import Derived.Test.YtbbaaaomncegiaaGreatDoorRgu
import Derived.ProofKit
import Derived.ShutString
import Derived.OpenShut
import Derived.Deep.DeepHandedRow
import Derived.Lib.LaidTab
import Derived.Lay
import Derived.LaidMore
import Derived.SevenTiedAt
import Derived.Stop.Joined
import Derived.Stop.LaidErr
import Derived.Shelf.Vars
import Derived.ChangeMaps5
namespace Go.Proofs.YtbbaaaomncegiaaGreatDoor
open Go.ChangeShapes Go.WideShapes Go.ChangeAt Go.RowKit Go.Deep Go.Joins Go.Proofs.Spn
set_option linter.unusedVariables false

theorem laid_plain : (Rows.rangesPicksRow.laid.all fun x => x.2.handleName?.isNone) = true := by kernel_rfl
theorem tab_of {W : World} (h : laidMetH Tryz.prog Rows.rangesPicksRow.laid W) : Tab W := by
  rw [MakeChecks.laidMetH_plain _ _ _ laid_plain] at h
  have h2 := h.tail.tail
  exact Lib.tabIs_of_head (rest := [("unicode/utf8.acceptRanges", Rows.laid_unicode_utf8_acceptRanges), ("unicode/utf8.first", Rows.laid_unicode_utf8_first)]) (g := 1) (t := 144) (e := 122) (n := 20)
    (by kernel_rfl) (by kernel_rfl) (by kernel_rfl) (by kernel_rfl) (by kernel_rfl) (by kernel_rfl) h2
theorem max_of {W : World} (h : W.ShapedOpen Tryz.prog) : ∃ m, W.cell? ⟨0, 0, none⟩ = some (.int .i64 m) :=
  cell_of_shapedOpen_int (P := Tryz.prog) (g := 0) (t := 3) (zero := #[.int .i64 0]) h (of_decide_eq_true (by kernel_rfl)) (by kernel_rfl) rfl (by kernel_rfl) (by kernel_rfl) Tryz.underlying3
end Go.Proofs.YtbbaaaomncegiaaGreatDoor
