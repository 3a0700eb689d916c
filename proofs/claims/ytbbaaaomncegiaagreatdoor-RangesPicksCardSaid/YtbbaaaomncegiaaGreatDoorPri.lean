/-
  The rows of the table of types that the walks of pages ask for.
-/
import Derived.Test.YtbbaaaomncegiaaGreatDoorGen
import Derived.Test.YtbbaaaomncegiaaGreatDoorPrn
namespace Go.Proofs.YtbbaaaomncegiaaGreatDoor
open Go.RowKit Go.Proofs.Prn

theorem Tryz.infoFrag : (Tryz.prog.info? 61).map (fun i => (i.zero, i.size, i.bytes)) = some (some (.agg #[.int .i64 0, .int .i64 0, .int .i64 0, .int .i64 0, .int .i64 0, .int .i64 0, .int .i64 0]), 7, 56) := by kernel_rfl
theorem Tryz.infoPage : (Tryz.prog.info? 38).map (fun i => (i.zero, i.size, i.bytes)) = some (some (.agg #[.int .i64 0, .int .i64 0, .slice none 0 0, .slice none 0 0, .slice none 0 0]), 5, 88) := by kernel_rfl
def encF (f : Frag) : List Value := [.int .i64 f.node, .int .i64 f.atom, .int .i64 f.frm, .int .i64 f.x, .int .i64 f.y, .int .i64 f.w, .int .i64 f.h]
theorem encF_len (f : Frag) : (encF f).length = 7 := rfl
end Go.Proofs.YtbbaaaomncegiaaGreatDoor
