/-
  No cell of these rows narrows 'for every input' (looked for: loops, veiled, ifaces, maps, wideKeys, modest, calm, conditions, laid).
  DERIVED. THE GIVEN ROWS OF THIS SEAT. 5 by the template 'for every input the law returns true; each argument reads behind the call as it read before'; 0 by the template 'total and deterministic' (their statements: YthiplocjiamahaaTotals.lean).
  GIVEN WITH THE SEED: the statements are not yours to turn. If you find one false, say at which input.
  Laid BY PROGRAM, IN A SANDBOX (cutbox-rows.mjs): the forced cells as the released guide's own fill.sh prints them over the translation 1d2f4f75445d85f6… (all of the seat's roots in one cut). By AI agents, Wed Nov 11 2026. No macro, syntax, notation, axiom, sorry.
-/
import Derived.Test.YthiplocjiamahaaChecked
import GoSem.Claim
import GoSem.ClaimJoined
import GoSem.ClaimMapViews
import Derived.JoinedTies
import Derived.KernelRfl
namespace Go.Proofs.Ythiplocjiamahaa
/- THE CELL 'sum', in the pinned program and in every row, IS THE sha256 OF THE DUMP (.gsa) THAT YthiplocjiamahaaProg.lean LOADS. Nothing in Lean hashes anything: it is a label: what it is worth is what the hold of that sum in a sandbox is worth. -/
noncomputable def Try.pinned : Pinned := { name := "ythiplocjiamahaa", sum := "1d2f4f75445d85f63cbaf45fc0f48f6a90e5e74670f0bfe5fbabc7bcec62a18a", checked := Try.checked }
namespace Rows
def none {H : Type} : Left H := { results := [], args := [] }

/-- 'gatefoldlaw33.SheetsAll': WHATEVER THE INPUT: true; the input reads as it did. -/
def sheetsAllSpec : ChangeSpec := { name := "sheetsAll", fn := fun _ => fun
  | [d1, d2] => { results := [.lit (.bool true)], args := [d1, d2] }
  | _ => none }
def sheetsAllRow : OpenClaim := { program := "ythiplocjiamahaa", sum := "1d2f4f75445d85f63cbaf45fc0f48f6a90e5e74670f0bfe5fbabc7bcec62a18a", func := "gatefold/gatefoldlaw33.SheetsAll", spec := "sheetsAll", unfollowed := true, recurses := true, plainKeys := false, apart := false }
def SheetsAllSaid : Prop := sheetsAllRow.holds Try.pinned (OpenSpec.ofChange sheetsAllSpec)

/-- ITS FALSE NEIGHBOUR: 'it returns false'. Refute it at one input. -/
def sheetsAllWrong : ChangeSpec := { name := "sheetsAll", fn := fun _ => fun
  | [d1, d2] => { results := [.lit (.bool false)], args := [d1, d2] }
  | _ => none }
def SheetsAllWrongFalsely : Prop := sheetsAllRow.holds Try.pinned (OpenSpec.ofChange sheetsAllWrong)

/-- 'gatefoldlaw33.SheetsRead': WHATEVER THE INPUT: true; the input reads as it did. -/
def sheetsReadSpec : ChangeSpec := { name := "sheetsRead", fn := fun _ => fun
  | [d1, d2] => { results := [.lit (.bool true)], args := [d1, d2] }
  | _ => none }
def sheetsReadRow : OpenClaim := { program := "ythiplocjiamahaa", sum := "1d2f4f75445d85f63cbaf45fc0f48f6a90e5e74670f0bfe5fbabc7bcec62a18a", func := "gatefold/gatefoldlaw33.SheetsRead", spec := "sheetsRead", unfollowed := true, recurses := true, plainKeys := false, apart := false }
def SheetsReadSaid : Prop := sheetsReadRow.holds Try.pinned (OpenSpec.ofChange sheetsReadSpec)

/-- ITS FALSE NEIGHBOUR: 'it returns false'. Refute it at one input. -/
def sheetsReadWrong : ChangeSpec := { name := "sheetsRead", fn := fun _ => fun
  | [d1, d2] => { results := [.lit (.bool false)], args := [d1, d2] }
  | _ => none }
def SheetsReadWrongFalsely : Prop := sheetsReadRow.holds Try.pinned (OpenSpec.ofChange sheetsReadWrong)

/-- 'gatefoldlaw33.SheetsAt': WHATEVER THE INPUT: true; the input reads as it did. -/
def sheetsAtSpec : ChangeSpec := { name := "sheetsAt", fn := fun _ => fun
  | [d1, d2, d3] => { results := [.lit (.bool true)], args := [d1, d2, d3] }
  | _ => none }
def sheetsAtRow : OpenClaim := { program := "ythiplocjiamahaa", sum := "1d2f4f75445d85f63cbaf45fc0f48f6a90e5e74670f0bfe5fbabc7bcec62a18a", func := "gatefold/gatefoldlaw33.SheetsAt", spec := "sheetsAt", unfollowed := true, recurses := true, plainKeys := false, apart := false }
def SheetsAtSaid : Prop := sheetsAtRow.holds Try.pinned (OpenSpec.ofChange sheetsAtSpec)

/-- ITS FALSE NEIGHBOUR: 'it returns false'. Refute it at one input. -/
def sheetsAtWrong : ChangeSpec := { name := "sheetsAt", fn := fun _ => fun
  | [d1, d2, d3] => { results := [.lit (.bool false)], args := [d1, d2, d3] }
  | _ => none }
def SheetsAtWrongFalsely : Prop := sheetsAtRow.holds Try.pinned (OpenSpec.ofChange sheetsAtWrong)

/-- 'gatefoldlaw33.SheetsOnce': WHATEVER THE INPUT: true; the input reads as it did. -/
def sheetsOnceSpec : ChangeSpec := { name := "sheetsOnce", fn := fun _ => fun
  | [d1, d2] => { results := [.lit (.bool true)], args := [d1, d2] }
  | _ => none }
def sheetsOnceRow : OpenClaim := { program := "ythiplocjiamahaa", sum := "1d2f4f75445d85f63cbaf45fc0f48f6a90e5e74670f0bfe5fbabc7bcec62a18a", func := "gatefold/gatefoldlaw33.SheetsOnce", spec := "sheetsOnce", unfollowed := true, recurses := true, plainKeys := false, apart := false }
def SheetsOnceSaid : Prop := sheetsOnceRow.holds Try.pinned (OpenSpec.ofChange sheetsOnceSpec)

/-- ITS FALSE NEIGHBOUR: 'it returns false'. Refute it at one input. -/
def sheetsOnceWrong : ChangeSpec := { name := "sheetsOnce", fn := fun _ => fun
  | [d1, d2] => { results := [.lit (.bool false)], args := [d1, d2] }
  | _ => none }
def SheetsOnceWrongFalsely : Prop := sheetsOnceRow.holds Try.pinned (OpenSpec.ofChange sheetsOnceWrong)

/-- 'gatefoldlaw33.SheetsLeaves': WHATEVER THE INPUT: true; the input reads as it did. -/
def sheetsLeavesSpec : ChangeSpec := { name := "sheetsLeaves", fn := fun _ => fun
  | [d1, d2] => { results := [.lit (.bool true)], args := [d1, d2] }
  | _ => none }
def sheetsLeavesRow : OpenClaim := { program := "ythiplocjiamahaa", sum := "1d2f4f75445d85f63cbaf45fc0f48f6a90e5e74670f0bfe5fbabc7bcec62a18a", func := "gatefold/gatefoldlaw33.SheetsLeaves", spec := "sheetsLeaves", unfollowed := true, recurses := true, plainKeys := false, apart := false }
def SheetsLeavesSaid : Prop := sheetsLeavesRow.holds Try.pinned (OpenSpec.ofChange sheetsLeavesSpec)

/-- ITS FALSE NEIGHBOUR: 'it returns false'. Refute it at one input. -/
def sheetsLeavesWrong : ChangeSpec := { name := "sheetsLeaves", fn := fun _ => fun
  | [d1, d2] => { results := [.lit (.bool false)], args := [d1, d2] }
  | _ => none }
def SheetsLeavesWrongFalsely : Prop := sheetsLeavesRow.holds Try.pinned (OpenSpec.ofChange sheetsLeavesWrong)

/- THE SECOND FORM. 'bulk': how many values and letters a reading holds, each counted each time it is reached (what is shared counts as often as it is met; a slice's spare places count too). A statement '..UptoSaid' is the law's where the arguments, and the package variables that the reading takes, are together of bulk at most 1048576: NARROWER than '..Said'. Prove '..Said' where nothing that the law and all that it calls make is longer than what came in: it says more and counts as full. Else prove '..UptoSaid'. A law counts once. -/
mutual
def uptoBulk {H : Type} : DataW H → Nat
  | .lit (.string bytes) => bytes.length + 1
  | .lit _ => 1
  | .nil => 1
  | .ptr d => uptoBulk d + 1
  | .slice elems spare => uptoBulkAll elems + uptoBulkAll spare + 1
  | .agg parts => uptoBulkAll parts + 1
  | .iface _ d => uptoBulk d + 1
  | .map entries => uptoBulkEntries entries + 1
  | .held _ => 1
def uptoBulkAll {H : Type} : List (DataW H) → Nat
  | [] => 0
  | d :: r => uptoBulk d + uptoBulkAll r
def uptoBulkEntries {H : Type} : List (Lit × DataW H) → Nat
  | [] => 0
  | x :: r => uptoBulkEntry x + uptoBulkEntries r
def uptoBulkEntry {H : Type} : Lit × DataW H → Nat
  | (.string bytes, d) => bytes.length + uptoBulk d + 1
  | (_, d) => uptoBulk d + 1
 end
def uptoSmall : (H : Type) → List (DataW H) → Bool := fun _ ds => decide (uptoBulkAll ds ≤ 1048576)
def OpenSpec.upto (s : _root_.Go.ChangeSpec) : _root_.Go.OpenSpec := { _root_.Go.OpenSpec.ofChange s with cond := some uptoSmall }

/-- 'gatefoldlaw33.SheetsAll', WHERE WHAT IT READS IS OF BULK AT MOST 1048576: true; the input reads as it did. -/
def sheetsAllUptoRow : OpenClaim := { program := "ythiplocjiamahaa", sum := "1d2f4f75445d85f63cbaf45fc0f48f6a90e5e74670f0bfe5fbabc7bcec62a18a", func := "gatefold/gatefoldlaw33.SheetsAll", spec := "sheetsAll", unfollowed := true, recurses := true, plainKeys := false, apart := false, narrowed := true }
def SheetsAllUptoSaid : Prop := sheetsAllUptoRow.holds Try.pinned (OpenSpec.upto sheetsAllSpec)

/-- 'gatefoldlaw33.SheetsRead', WHERE WHAT IT READS IS OF BULK AT MOST 1048576: true; the input reads as it did. -/
def sheetsReadUptoRow : OpenClaim := { program := "ythiplocjiamahaa", sum := "1d2f4f75445d85f63cbaf45fc0f48f6a90e5e74670f0bfe5fbabc7bcec62a18a", func := "gatefold/gatefoldlaw33.SheetsRead", spec := "sheetsRead", unfollowed := true, recurses := true, plainKeys := false, apart := false, narrowed := true }
def SheetsReadUptoSaid : Prop := sheetsReadUptoRow.holds Try.pinned (OpenSpec.upto sheetsReadSpec)

/-- 'gatefoldlaw33.SheetsAt', WHERE WHAT IT READS IS OF BULK AT MOST 1048576: true; the input reads as it did. -/
def sheetsAtUptoRow : OpenClaim := { program := "ythiplocjiamahaa", sum := "1d2f4f75445d85f63cbaf45fc0f48f6a90e5e74670f0bfe5fbabc7bcec62a18a", func := "gatefold/gatefoldlaw33.SheetsAt", spec := "sheetsAt", unfollowed := true, recurses := true, plainKeys := false, apart := false, narrowed := true }
def SheetsAtUptoSaid : Prop := sheetsAtUptoRow.holds Try.pinned (OpenSpec.upto sheetsAtSpec)

/-- 'gatefoldlaw33.SheetsOnce', WHERE WHAT IT READS IS OF BULK AT MOST 1048576: true; the input reads as it did. -/
def sheetsOnceUptoRow : OpenClaim := { program := "ythiplocjiamahaa", sum := "1d2f4f75445d85f63cbaf45fc0f48f6a90e5e74670f0bfe5fbabc7bcec62a18a", func := "gatefold/gatefoldlaw33.SheetsOnce", spec := "sheetsOnce", unfollowed := true, recurses := true, plainKeys := false, apart := false, narrowed := true }
def SheetsOnceUptoSaid : Prop := sheetsOnceUptoRow.holds Try.pinned (OpenSpec.upto sheetsOnceSpec)

/-- 'gatefoldlaw33.SheetsLeaves', WHERE WHAT IT READS IS OF BULK AT MOST 1048576: true; the input reads as it did. -/
def sheetsLeavesUptoRow : OpenClaim := { program := "ythiplocjiamahaa", sum := "1d2f4f75445d85f63cbaf45fc0f48f6a90e5e74670f0bfe5fbabc7bcec62a18a", func := "gatefold/gatefoldlaw33.SheetsLeaves", spec := "sheetsLeaves", unfollowed := true, recurses := true, plainKeys := false, apart := false, narrowed := true }
def SheetsLeavesUptoSaid : Prop := sheetsLeavesUptoRow.holds Try.pinned (OpenSpec.upto sheetsLeavesSpec)

end Rows
end Go.Proofs.Ythiplocjiamahaa
