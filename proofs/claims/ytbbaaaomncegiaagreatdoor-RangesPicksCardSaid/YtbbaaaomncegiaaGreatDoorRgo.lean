/-
  gatefoldlaw32.of: spans by their ends; read, wrong: whether a text is that choice, whether it is refused there.
-/
import Derived.Test.YtbbaaaomncegiaaGreatDoorRgn
import Derived.Test.YtbbaaaomncegiaaGreatDoorSam
import Derived.Test.YtbbaaaomncegiaaGreatDoorQtl
namespace Go.Proofs.YtbbaaaomncegiaaGreatDoor
open Go.RowKit Go.Proofs.Spn Go.Proofs.Rng Go.Proofs.Prn

theorem ends_new (w : World) (t : TypeId) (l : List Sp) : Spans (w.alloc (.cells (flatS l).toArray t)) (some ⟨w.heap.size, 0, none⟩) l := fun i x hx => by
  obtain ⟨f1, f2⟩ := flatS_one l i x hx
  refine ⟨w.heap.size, 0, rfl, by simp, ?_, ?_⟩
  · rw [Nat.zero_add]; simpa using f1
  · rw [Nat.zero_add]; simpa using f2

set_option maxHeartbeats 4000000 in
set_option maxRecDepth 100000 in
theorem ends_any (A : Option Addr) (c n : Nat) (ps : List Sp) (w : World) (hA : Spans w A ps) (hn : n = 2 * ps.length) (hl : ps.length ≤ 100000) :
    Calls Tryz.prog 23 #[.slice A n c] w (GivesS ps w) := by
  subst hn
  have HA := Lib.hid hA
  clear hA
  go_enter Tryz.func23, Tryz.ntmps23
  go_wp2_with fail
  go_loopw [3, 4] (fun v i wr => ∃ (k : Nat), k ≤ ps.length ∧ i = .int .i64 ((2 * k : Nat) : Int) ∧ Hid (wr.ownsRow w.heap.size 24 2 v (ps.take k).length (flatS (ps.take k))) ∧ Hid (Below w.heap.size w wr))
    (fun _ i _ => 2 * ps.length - (intOf i).toNat)
  case atStart => exact ⟨0, Nat.zero_le _, rfl, World.ownsRow_nil _ _ _ _, Below.refl _ _⟩
  case round =>
    obtain ⟨k, hk, rfl, HO, HB⟩ := hrel
    by_cases hlt : k < ps.length
    · obtain ⟨⟨x1, x2⟩, hx⟩ : ∃ x, ps[k]? = some x := ⟨_, List.getElem?_eq_getElem hlt⟩
      obtain ⟨b, off, rfl, hb, c1, c2⟩ := HA.out.below HB.out k _ hx
      simp only at c1 c2
      have HS := Lib.hid (take_snoc ps k _ hx)
      have hol : (ps.take k).length ≤ 100000 := by rw [List.length_take]; omega
      generalize ps.take k = o at HO HS hol
      obtain ⟨j, hj⟩ : ∃ j, k * 2 = j := ⟨_, rfl⟩
      rw [hj] at c1 c2
      have hj2 : 2 * k = j := by omega
      rw [hj2]
      have w1 : wrap64 ((j : Int) + 1) = (j : Int) + 1 := IntWalk.wrap64_in _ (by omega)
      have i1 : (0 : Int) ≤ (j : Int) := by omega
      have i2 : (0 : Int) ≤ (j : Int) + 1 := by omega
      have i3 : (j : Int) < ((2 * ps.length : Nat) : Int) := by omega
      have i4 : (j : Int) + 1 < ((2 * ps.length : Nat) : Int) := by omega
      have i5 : ((j : Int) + 1).toNat = j + 1 := by omega
      have i6 : j < 2 * ps.length := by omega
      have i7 : j + 1 < 2 * ps.length := by omega
      have w3 : IntKind.i64.wrap ((j : Int) + 1) = (j : Int) + 1 := IntWalk.i64_in _ (by omega)
      have w2 : wrap64 ((j : Int) + 2) = (j : Int) + 2 := IntWalk.wrap64_in _ (by omega)
      have HX := Lib.hid hx
      generalize 2 * ps.length = M at *
      clear hx c1 c2
      have KEEP : Hid (∀ W, Below w.heap.size w W → W.cell? ⟨b, off + j, none⟩ = some (.int .i64 x1) ∧ W.cell? ⟨b, off + (j + 1), none⟩ = some (.int .i64 x2) ∧ Hid (Below w.heap.size w W)) := fun W h => by
        obtain ⟨b', off', e', _, d1, d2⟩ := HA.out.below h k _ HX.out
        injection e' with e'
        injection e' with e1 e2
        subst e1 e2
        rw [hj] at d1 d2
        exact ⟨d1, d2, h⟩
      go_wp2_with fail
      go_region_held3 (fun W => W.cell? ⟨b, off + j, none⟩ = some (.int .i64 x1) ∧ W.cell? ⟨b, off + (j + 1), none⟩ = some (.int .i64 x2) ∧ Hid (Below w.heap.size w W))
        (exact KEEP.out _ (by first | assumption | (repeat (first | exact HB.out | refine bl ?_ _ | refine bd ?_))))
        ((refine step_append_spans (by rfl) _ _ (by rfl) (by rfl) w.heap.size _ o (by rfl) (HO.out.drew.alloc _) _ 1 1 [(x1, x2)] (by rfl) rfl (spans_new wr.drew [(x1, x2)]) (by simp only [List.length_nil, List.length_cons]; omega) (bl (bd HB.out) _).size ?_; intro v5 w5 own5 grow5; have hb5 : Below w.heap.size w w5 := (bl (bd HB.out) _).grown grow5 (bl (bd HB.out) (.cells #[.int .i64 x1, .int .i64 x2] 24)).size fun q hq => (HO.out.lt q hq).1))
      have HB5 := Lib.hid hb5
      clear hb5
      have HO5 : Hid (w5.ownsRow w.heap.size 24 2 v5 (ps.take (k + 1)).length (flatS (ps.take (k + 1)))) := by
        show World.ownsRow _ _ _ _ _ _ _
        rw [HS.out]
        exact own5
      clear own5 grow5
      go_wp2_with fail
      go_roundw
      case rel => exact ⟨k + 1, by omega, congrArg (Value.int .i64) (by omega), HO5, HB5⟩
      case measure => simp [intOf]; omega
    · obtain rfl : k = ps.length := by omega
      have ho := HO.out
      rw [List.take_length] at ho
      have HO2 := Lib.hid ho
      have w1 : wrap64 (((2 * ps.length : Nat) : Int) + 1) = ((2 * ps.length : Nat) : Int) + 1 := IntWalk.wrap64_in _ (by omega)
      have i4 : ¬ ((2 * ps.length : Nat) : Int) + 1 < ((2 * ps.length : Nat) : Int) := by omega
      clear ho HO
      generalize 2 * ps.length = M at *
      go_wp2_with fail
      go_ret
      exact GivesS.of HO2.out HB.out (Nat.le_refl _)
end Go.Proofs.YtbbaaaomncegiaaGreatDoor
