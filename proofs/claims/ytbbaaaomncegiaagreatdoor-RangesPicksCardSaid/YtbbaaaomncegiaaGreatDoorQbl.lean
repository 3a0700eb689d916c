/-
  A region that draws its order, whose operations read and whose callees leave all that was there: one walk in the order of the text serves every order (the library's theorem, at the class 'what lay in w lies unturned').
-/
import Derived.BigQuiet
import Derived.Below
namespace Go.Proofs.YtbbaaaomncegiaaGreatDoor
open Go.RowKit

/-- A world in which all that lay in w lies unturned. -/
structure From (w : World) where
  W : World
  below : Below w.heap.size w W

instance {w : World} : Inhabited (From w) := ⟨⟨w, Below.refl _ _⟩⟩

theorem wp_region_from {P : Program} {id : Nat} {Q : Exit → Act → World → Prop} {a : Act} {w : World} {l : List Oper} (hm : P.follows .mixedOrders = true) (hB : Region.lexB .any l.toArray = true)
    (h : wpQuiet P l.toArray (fun w' => ∃ p : From w, w' = p.W) (fun a' => ∀ w', (∃ p : From w, w' = p.W) → Q .normal a' w') l a) : (Code.region id l.toArray true).wp P Q a w :=
  wp_region_quiet (C := fun w' => ∃ p : From w, w' = p.W) hm hB ⟨⟨w.drew, (Below.refl _ _).drew⟩, rfl⟩ (by simpa using h)

theorem calls_from {P : Program} {f : FuncId} {args : Array Value} {w : World} {p : From w} {v : Value}
    (h : Calls P f args p.W fun e w' => e = .returned v ∧ Below p.W.heap.size p.W w') : Calls P f args p.W fun e w'' => e = .returned v ∧ ∃ q : From w, w'' = q.W :=
  h.mono fun _ w' ⟨he, hb⟩ => ⟨he, ⟨w', p.below.trans (hb.mono p.below.size)⟩, rfl⟩

theorem From.cell {w : World} {a : Addr} {v : Value} (h : w.cell? a = some v) (p : From w) : p.W.cell? a = some v := by
  have hlt : a.block < w.heap.size := World.block_lt_of_cell? w a h
  exact (p.below.cell hlt).trans h

end Go.Proofs.YtbbaaaomncegiaaGreatDoor
