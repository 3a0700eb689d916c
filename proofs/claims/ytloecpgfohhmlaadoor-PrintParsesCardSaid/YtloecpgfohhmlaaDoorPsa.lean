/-
  gatefoldref29.frags and Same tell whether two rows of parts, of pages, are one; below the heap's size nothing turns.
-/
import Derived.Test.YtloecpgfohhmlaaDoorPwd
import Derived.Deep.QuietTactic
import Derived.BigQuiet
namespace Go.Proofs.YtloecpgfohhmlaaDoor
open Go.RowKit Go.Proofs.Prn

theorem take_snoc {α : Type} (l : List α) (k : Nat) (x : α) (h : l[k]? = some x) : l.take (k + 1) = l.take k ++ [x] := by
  rw [List.take_add_one, h]; rfl
def sameL {α : Type} [DecidableEq α] (xs ys : List α) : Bool := decide (xs = ys)
theorem same_no {α : Type} [DecidableEq α] {xs ys : List α} {k : Nat} {x y : α} (hx : xs[k]? = some x) (hy : ys[k]? = some y) (h : x ≠ y) : sameL xs ys = false := by
  unfold sameL
  simp only [decide_eq_false_iff_not]
  intro e
  rw [e, hy] at hx
  cases hx
  exact h rfl
theorem same_take {α : Type} {xs ys : List α} {k : Nat} {x : α} (h : xs.take k = ys.take k) (hx : xs[k]? = some x) (hy : ys[k]? = some x) : xs.take (k + 1) = ys.take (k + 1) := by
  rw [take_snoc _ _ _ hx, take_snoc _ _ _ hy, h]
theorem same_len {α : Type} [DecidableEq α] {xs ys : List α} (h : xs.length ≠ ys.length) : sameL xs ys = false := by
  unfold sameL
  simp only [decide_eq_false_iff_not]
  intro e
  exact h (by rw [e])
/-- Where two parts differ first. -/
theorem differ {x0 x1 x2 x3 x4 x5 x6 y0 y1 y2 y3 y4 y5 y6 : Int} (h : (⟨x0, x1, x2, x3, x4, x5, x6⟩ : Frag) ≠ ⟨y0, y1, y2, y3, y4, y5, y6⟩) : (x0 == y0) = false ∨ (x0 = y0 ∧ (x1 == y1) = false) ∨ (x0 = y0 ∧ x1 = y1 ∧ (x2 == y2) = false) ∨ (x0 = y0 ∧ x1 = y1 ∧ x2 = y2 ∧ (x3 == y3) = false) ∨ (x0 = y0 ∧ x1 = y1 ∧ x2 = y2 ∧ x3 = y3 ∧ (x4 == y4) = false) ∨ (x0 = y0 ∧ x1 = y1 ∧ x2 = y2 ∧ x3 = y3 ∧ x4 = y4 ∧ (x5 == y5) = false) ∨ (x0 = y0 ∧ x1 = y1 ∧ x2 = y2 ∧ x3 = y3 ∧ x4 = y4 ∧ x5 = y5 ∧ (x6 == y6) = false) := by
  simp only [ne_eq, Frag.mk.injEq, beq_eq_false_iff_ne] at *
  omega

set_option maxHeartbeats 8000000 in
theorem rfrags_any (A B : Option Addr) (c d : Nat) (xs ys : List Frag) (w : World) (hA : RowAt encF 7 w A xs) (hB : RowAt encF 7 w B ys) (hn : xs.length ≤ 9223372036854775807) :
    Calls Tryd.prog 23 #[.slice A xs.length c, .slice B ys.length d] w fun e w' => e = .returned (.bool (sameL xs ys)) ∧ Below w.heap.size w w' := by
  have HA := Lib.hid hA
  have HB := Lib.hid hB
  clear hA hB
  by_cases hl : xs.length = ys.length
  · have HL := Lib.hid hl
    have hl' : (((xs.length : Int)) != (ys.length : Int)) = false := by simp [hl]
    clear hl
    go_enter Tryd.func23, Tryd.ntmps23
    go_wp2
    go_loopw [5] (fun i wr => ∃ (k : Nat), k ≤ xs.length ∧ i = .int .i64 k ∧ Below w.heap.size w wr ∧ Hid (xs.take k = ys.take k))
      (fun i _ => xs.length - (intOf i).toNat)
    case atStart => exact ⟨0, Nat.zero_le _, rfl, Below.refl _ _, rfl⟩
    case round =>
      obtain ⟨k, hk, rfl, hnx, HT⟩ := hrel
      by_cases hlt : k < xs.length
      · have hlt2 : k < ys.length := by have := HL.out; omega
        obtain ⟨⟨x0, x1, x2, x3, x4, x5, x6⟩, hx⟩ : ∃ x, xs[k]? = some x := ⟨_, List.getElem?_eq_getElem hlt⟩
        obtain ⟨⟨y0, y1, y2, y3, y4, y5, y6⟩, hy⟩ : ∃ y, ys[k]? = some y := ⟨_, List.getElem?_eq_getElem hlt2⟩
        obtain ⟨b, off, rfl, hb, c0, c1, c2, c3, c4, c5, c6⟩ := (HA.out.below hnx).frag hx
        obtain ⟨b', off', rfl, hb', d0, d1, d2, d3, d4, d5, d6⟩ := (HB.out.below hnx).frag hy
        simp only at c0 c1 c2 c3 c4 c5 c6 d0 d1 d2 d3 d4 d5 d6
        have HX := Lib.hid hx
        have HY := Lib.hid hy
        clear hx hy
        by_cases he : (⟨x0, x1, x2, x3, x4, x5, x6⟩ : Frag) = ⟨y0, y1, y2, y3, y4, y5, y6⟩
        · simp only [Frag.mk.injEq] at he
          obtain ⟨rfl, rfl, rfl, rfl, rfl, rfl, rfl⟩ := he
          have E := Lib.hid (same_take HT.out HX.out HY.out)
          go_wp2_with fail
          go_quiet (fail)
          all_goals (go_wp2_with fail)
          all_goals go_roundw
          all_goals first
            | exact ⟨k + 1, by omega, by go_num, bdn hnx _, E.out⟩
            | (simp [intOf]; omega)
        · have E := Lib.hid (same_no HX.out HY.out he)
          have hd := differ he
          clear he
          rcases hd with e0 | ⟨rfl, e0⟩ | ⟨rfl, rfl, e0⟩ | ⟨rfl, rfl, rfl, e0⟩ | ⟨rfl, rfl, rfl, rfl, e0⟩ | ⟨rfl, rfl, rfl, rfl, rfl, e0⟩ | ⟨rfl, rfl, rfl, rfl, rfl, rfl, e0⟩
          all_goals
            go_wp2_with fail
            go_quiet (fail)
            all_goals (go_wp2_with fail)
            all_goals go_ret
            all_goals exact ⟨by rw [E.out]; rfl, bdn hnx _⟩
      · have e : k = xs.length := by omega
        have HK := Lib.hid e
        clear e
        go_wp2
        go_ret
        refine ⟨?_, hnx⟩
        have h := HT.out
        rw [HK.out, List.take_length, HL.out, List.take_length] at h
        rw [show sameL xs ys = true by unfold sameL; simpa using h]
        rfl
  · have hl' : (((xs.length : Int)) != (ys.length : Int)) = true := by simp; omega
    have E := Lib.hid (same_len hl)
    clear hl
    go_enter Tryd.func23, Tryd.ntmps23
    go_wp2
    go_ret
    exact ⟨by rw [E.out]; rfl, Below.refl _ _⟩
end Go.Proofs.YtloecpgfohhmlaaDoor
