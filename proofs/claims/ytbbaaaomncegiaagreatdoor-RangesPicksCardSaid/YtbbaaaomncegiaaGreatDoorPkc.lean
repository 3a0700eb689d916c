/-
  gatefoldref32.Of: the choice of some numbers, by definition; below the heap's size nothing turns.
-/
import Derived.Test.YtbbaaaomncegiaaGreatDoorMhb
import Derived.Test.YtbbaaaomncegiaaGreatDoorRge
import Derived.Test.YtbbaaaomncegiaaGreatDoorRgf
namespace Go.Proofs.YtbbaaaomncegiaaGreatDoor
open Go.RowKit Go.Proofs.Spn Go.Proofs.Rng

theorem madeS_slice {l : List Sp} {w w' : World} {e : Ending} (h : MadeS l w e w') : ∃ A c, e = .returned (.slice A l.length c) ∧ Spans w' A l ∧ Below w.heap.size w w' := by
  obtain ⟨v, he, hr, hb⟩ := h
  obtain ⟨A, c, rfl, hS, _⟩ := Spans.of_own hr
  exact ⟨A, c, he, hS, hb⟩
/-- What is given of numbers. -/
def GivesN (l : List Sp) (w : World) (e : Ending) (w' : World) : Prop := ∃ A c, e = .returned (.slice A l.length c) ∧ Spans w' A l ∧ Below w.heap.size w w'

set_option maxHeartbeats 4000000 in
set_option maxRecDepth 100000 in
theorem refof_any (A : Option Addr) (c : Nat) (ns : List Int) (w : World) (hA : RowAt encI 1 w A ns) (hn : ns.length ≤ 300000) :
    Calls Tryz.prog 18 #[.slice A ns.length c] w (GivesN (ofS ns) w) := by
  have HA := Lib.hid hA
  clear hA
  go_enter Tryz.func18, Tryz.ntmps18
  go_wp2_with fail
  go_loopw [3, 4] (fun v i wr => ∃ (k : Nat) (o : List Sp) (A' : Option Addr) (c' : Nat), k ≤ ns.length ∧ i = .int .i64 k ∧ v = .slice A' o.length c' ∧ Hid (o = ofS (ns.take k)) ∧ Hid (Spans wr A' o) ∧ Hid (Below w.heap.size w wr))
    (fun _ i _ => ns.length - (intOf i).toNat)
  case atStart => exact ⟨0, [], none, 0, Nat.zero_le _, rfl, rfl, (by show _ = _; rfl), Spans.nil _ _, Below.refl _ _⟩
  case round =>
    obtain ⟨k, o, A', c', hk, rfl, rfl, HE, HS, HB⟩ := hrel
    by_cases hlt : k < ns.length
    · obtain ⟨n, hx⟩ : ∃ n, ns[k]? = some n := ⟨_, List.getElem?_eq_getElem hlt⟩
      obtain ⟨b, off, rfl, hb, hc⟩ := HA.out.below HB.out k n hx
      have c1 := hc 0 _ rfl
      simp only [Nat.add_zero, Nat.mul_one] at c1
      have hlt' : (k : Int) < (ns.length : Int) := by omega
      have i0 : (0 : Int) ≤ (k : Int) := by omega
      have hol : o.length ≤ 300000 := by rw [HE.out]; have := of_length (ns.take k); have := List.length_take_le' k ns; omega
      by_cases hq : 1 ≤ n ∧ n ≤ 999999
      · have q1 := decide_eq_true hq.1
        have q2 := decide_eq_true hq.2
        have HM : Hid (IsMade 1 o [(n, n + 1)] (ofS (ns.take (k + 1)))) := by have := of_made ns k n hx; rw [← HE.out] at this; exact this
        have e1 : IntKind.i64.wrap (n + 1) = n + 1 := IntWalk.i64_in _ (by omega)
        have KEEP : Hid (∀ W, Below wr.heap.size wr W → W.cell? ⟨b, off + k, none⟩ = some (.int .i64 n) ∧ Hid (Below wr.heap.size wr W)) := fun W h => ⟨(h.cell (p := ⟨b, off + k, none⟩) hb).trans c1, h⟩
        have CM : Hid (∀ W, Below wr.heap.size wr W → Calls Tryz.prog 14 #[.int .i64 1, .slice A' o.length c', .slice (some ⟨W.heap.size, 0, none⟩) 1 1] (W.alloc (.cells #[.int .i64 n, .int .i64 (n + 1)] 24)) (MadeS (ofS (ns.take (k + 1))) (W.alloc (.cells #[.int .i64 n, .int .i64 (n + 1)] 24)))) := fun W h =>
          made_any 1 A' (some ⟨W.heap.size, 0, none⟩) c' 1 o [(n, n + 1)] _ _ ((HS.out.below h).below (bl (Below.refl _ _) _)) (spans_new W [(n, n + 1)]) (by omega) (by simp) HM.out
        have HX := Lib.hid hx
        clear hc hx hq
        go_wp2_with fail
        clear c1
        go_region_held3 (fun W => W.cell? ⟨b, off + k, none⟩ = some (.int .i64 n) ∧ Hid (Below wr.heap.size wr W))
          (exact KEEP.out _ (by repeat (first | exact Below.refl _ _ | refine bl ?_ _ | refine bd ?_ | refine bt ?_ (by assumption))))
          ((go_at_call 14; refine (CM.out wr.drew (bd (Below.refl _ _))).mono ?_; rintro e w5 hg5; obtain ⟨A5, c5, rfl, hS5, hb5⟩ := madeS_slice hg5; have hb5 : Below wr.heap.size wr w5 := bt (bl (bd (Below.refl _ _)) _) hb5))
        have HS5 := Lib.hid hS5
        have HB5 := Lib.hid (bt HB.out hb5)
        clear hS5 hb5 hg5
        go_wp2_with fail
        go_roundw
        case rel => exact ⟨k + 1, ofS (ns.take (k + 1)), A5, c5, by omega, by go_num, rfl, (by show _ = _; rfl), HS5, HB5⟩
        case measure => simp [intOf]; omega
      · have HM : Hid (o = ofS (ns.take (k + 1))) := by show _ = _; rw [of_skip ns k n hx hq]; exact HE.out
        clear hc hx
        by_cases p1 : 1 ≤ n
        · have q1 := decide_eq_true p1
          have q2 : decide (n ≤ 999999) = false := decide_eq_false fun h => hq ⟨p1, h⟩
          have p2 : ¬ n ≤ 999999 := fun h => hq ⟨p1, h⟩
          clear hq
          go_wp2_with fail
          go_roundw
          case rel => exact ⟨k + 1, o, A', c', by omega, by go_num, rfl, HM, HS, HB⟩
          case measure => simp [intOf]; omega
        · have q1 := decide_eq_false p1
          clear hq
          go_wp2_with fail
          go_roundw
          case rel => exact ⟨k + 1, o, A', c', by omega, by go_num, rfl, HM, HS, HB⟩
          case measure => simp [intOf]; omega
    · have hlt' : ¬ (k : Int) < (ns.length : Int) := by omega
      have HE2 : Hid (o = ofS ns) := by have := HE.out; rw [List.take_of_length_le (by omega)] at this; exact this
      clear HE
      go_wp2_with fail
      go_ret
      obtain rfl := HE2.out
      exact ⟨A', c', rfl, HS.out, HB.out⟩
end Go.Proofs.YtbbaaaomncegiaaGreatDoor
