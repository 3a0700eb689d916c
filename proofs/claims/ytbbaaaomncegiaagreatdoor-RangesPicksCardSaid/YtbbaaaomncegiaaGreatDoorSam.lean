/-
  gatefoldref32.Same tells whether two rows of spans are one; below the heap's size at the call nothing turns.
-/
import Derived.Test.YtbbaaaomncegiaaGreatDoorHul
import Derived.Deep.QuietTactic
import Derived.BigQuiet
namespace Go.Proofs.YtbbaaaomncegiaaGreatDoor
open Go.RowKit Go.Proofs.Spn

def sameB (xs ys : List Sp) : Bool := decide (xs = ys)
theorem same_no {xs ys : List Sp} {k : Nat} {x y : Sp} (hx : xs[k]? = some x) (hy : ys[k]? = some y) (h : x ≠ y) : sameB xs ys = false := by
  unfold sameB
  simp only [decide_eq_false_iff_not]
  intro e
  rw [e, hy] at hx
  cases hx
  exact h rfl
theorem same_take {xs ys : List Sp} {k : Nat} {x : Sp} (h : xs.take k = ys.take k) (hx : xs[k]? = some x) (hy : ys[k]? = some x) : xs.take (k + 1) = ys.take (k + 1) := by
  rw [take_snoc _ _ _ hx, take_snoc _ _ _ hy, h]

set_option maxHeartbeats 2000000 in
theorem same_any (A B : Option Addr) (c d : Nat) (xs ys : List Sp) (w : World) (hA : Spans w A xs) (hB : Spans w B ys) (hn : xs.length ≤ 9223372036854775807) :
    Calls Tryz.prog 11 #[.slice A xs.length c, .slice B ys.length d] w fun e w' => e = .returned (.bool (sameB xs ys)) ∧ Below w.heap.size w w' := by
  have HA := Lib.hid hA
  have HB := Lib.hid hB
  clear hA hB
  by_cases hl : xs.length = ys.length
  · have HL := Lib.hid hl
    have hl' : (((xs.length : Int)) != (ys.length : Int)) = false := by simp [hl]
    clear hl
    go_enter Tryz.func11, Tryz.ntmps11
    go_wp2
    go_loopw [5] (fun i wr => ∃ (k : Nat), k ≤ xs.length ∧ i = .int .i64 k ∧ Below w.heap.size w wr ∧ Hid (xs.take k = ys.take k))
      (fun i _ => xs.length - (intOf i).toNat)
    case atStart => exact ⟨0, Nat.zero_le _, rfl, Below.refl _ _, rfl⟩
    case round =>
      obtain ⟨k, hk, rfl, hnx, HT⟩ := hrel
      by_cases hlt : k < xs.length
      · have hlt2 : k < ys.length := by have := HL.out; omega
        obtain ⟨⟨x1, x2⟩, hx⟩ : ∃ x, xs[k]? = some x := ⟨_, List.getElem?_eq_getElem hlt⟩
        obtain ⟨⟨y1, y2⟩, hy⟩ : ∃ y, ys[k]? = some y := ⟨_, List.getElem?_eq_getElem hlt2⟩
        obtain ⟨b, off, rfl, hb, c1, c2⟩ := HA.out.below hnx k _ hx
        obtain ⟨b', off', rfl, hb', d1, d2⟩ := HB.out.below hnx k _ hy
        have HX := Lib.hid hx
        have HY := Lib.hid hy
        clear hx hy
        simp only at c1 c2 d1 d2
        by_cases e1 : x1 = y1
        · by_cases e2 : x2 = y2
          · subst e1; subst e2
            go_wp2_with fail
            go_quiet (fail)
            all_goals (go_wp2_with fail)
            all_goals go_roundw
            all_goals first
              | exact ⟨k + 1, by omega, by go_num, bdn hnx _, same_take HT.out HX.out HY.out⟩
              | (simp [intOf]; omega)
          · have E := Lib.hid (same_no HX.out HY.out (fun e => e2 (congrArg Prod.snd e)))
            have e2' : (x2 == y2) = false := by simpa using e2
            clear e2
            go_wp2_with fail
            go_quiet (fail)
            all_goals (go_wp2_with fail)
            all_goals go_ret
            all_goals exact ⟨by rw [E.out]; rfl, bdn hnx _⟩
        · have E := Lib.hid (same_no HX.out HY.out (fun e => e1 (congrArg Prod.fst e)))
          have e1' : (x1 == y1) = false := by simpa using e1
          clear e1
          go_wp2_with fail
          go_quiet (fail)
          all_goals (go_wp2_with fail)
          all_goals go_ret
          all_goals exact ⟨by rw [E.out]; rfl, bdn hnx _⟩
      · have e : k = xs.length := by omega
        have HK := Lib.hid e
        clear e
        go_wp2
        go_ret
        refine ⟨?_, hnx⟩
        have h := HT.out
        rw [HK.out, List.take_length, HL.out, List.take_length] at h
        rw [show sameB xs ys = true by unfold sameB; simpa using h]
        rfl
  · have hl' : (((xs.length : Int)) != (ys.length : Int)) = true := by simp; omega
    have E := Lib.hid (show sameB xs ys = false by unfold sameB; simp only [decide_eq_false_iff_not]; intro e; exact hl (by rw [e]))
    clear hl
    go_enter Tryz.func11, Tryz.ntmps11
    go_wp2
    go_ret
    exact ⟨by rw [E.out]; rfl, Below.refl _ _⟩
end Go.Proofs.YtbbaaaomncegiaaGreatDoor
