/-
  A list's beginning, one element more.
-/
import Derived.Test.YtbbaaaomncegiaaGreatDoorMem
namespace Go.Proofs.YtbbaaaomncegiaaGreatDoor
open Go.RowKit Go.Proofs.Spn

theorem take_snoc (l : List Sp) (k : Nat) (x : Sp) (h : l[k]? = some x) : l.take (k + 1) = l.take k ++ [x] := by
  rw [List.take_add_one, h]; rfl
end Go.Proofs.YtbbaaaomncegiaaGreatDoor
