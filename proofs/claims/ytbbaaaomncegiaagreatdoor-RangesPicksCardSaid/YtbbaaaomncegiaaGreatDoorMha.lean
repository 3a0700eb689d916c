/-
  gatefoldref32.Has, May, in: whether a number is in one of some spans; whether spans are a choice; whether a number is asked for; below the heap's size nothing turns.
-/
import Derived.Test.YtbbaaaomncegiaaGreatDoorMda
import Derived.Test.YtbbaaaomncegiaaGreatDoorDel
import Derived.Test.YtbbaaaomncegiaaGreatDoorQbl
import Derived.Deep.QuietTactic
import Derived.IntWalk
namespace Go.Proofs.YtbbaaaomncegiaaGreatDoor
open Go.RowKit Go.Proofs.Spn Go.Proofs.Rng

set_option maxHeartbeats 2000000 in
set_option maxRecDepth 100000 in
theorem refhas_any (A : Option Addr) (c : Nat) (xs : List Sp) (no : Int) (w : World) (hA : Spans w A xs) (hn : xs.length ≤ 9223372036854775807) :
    Calls Tryz.prog 13 #[.slice A xs.length c, .int .i64 no] w fun e w' => e = .returned (.bool (hasA xs no)) ∧ Below w.heap.size w w' := by
  have HA := Lib.hid hA
  clear hA
  go_enter Tryz.func13, Tryz.ntmps13
  go_wp2_with fail
  go_loopw [5] (fun i wr => ∃ (k : Nat), k ≤ xs.length ∧ i = .int .i64 k ∧ Hid (Below w.heap.size w wr) ∧ Hid (hasA (xs.take k) no = false))
    (fun i _ => xs.length - (intOf i).toNat)
  case atStart => exact ⟨0, Nat.zero_le _, rfl, Below.refl _ _, rfl⟩
  case round =>
    obtain ⟨k, hk, rfl, HB, HM⟩ := hrel
    by_cases hlt : k < xs.length
    · obtain ⟨⟨x1, x2⟩, hx⟩ : ∃ x, xs[k]? = some x := ⟨_, List.getElem?_eq_getElem hlt⟩
      obtain ⟨b, off, rfl, hb, c1, c2⟩ := HA.out.below HB.out k _ hx
      have st := hasA_snoc hx no
      rw [HM.out, Bool.false_or] at st
      simp only at c1 c2
      have hlt' : (k : Int) < (xs.length : Int) := by omega
      have i0 : (0 : Int) ≤ (k : Int) := by omega
      by_cases p1 : x1 ≤ no
      · by_cases p2 : no < x2
        · have E := Lib.hid (hasA_yes hx (y := no) (by unfold hasS; simp [p1, p2]))
          clear st hx
          go_wp2_with fail
          go_ret
          exact ⟨by rw [E.out]; rfl, HB.out⟩
        · have E : Hid (hasA (xs.take (k + 1)) no = false) := by show _ = _; rw [st]; unfold hasS; simp [p2]
          clear st hx
          go_wp2_with fail
          go_roundw
          case rel => exact ⟨k + 1, by omega, by go_num, HB, E⟩
          case measure => simp [intOf]; omega
      · have E : Hid (hasA (xs.take (k + 1)) no = false) := by show _ = _; rw [st]; unfold hasS; simp [p1]
        clear st hx
        go_wp2_with fail
        go_roundw
        case rel => exact ⟨k + 1, by omega, by go_num, HB, E⟩
        case measure => simp [intOf]; omega
    · have hlt' : ¬ (k : Int) < (xs.length : Int) := by omega
      have E : Hid (hasA xs no = false) := by
        have h := HM.out
        rw [List.take_of_length_le (by omega)] at h
        exact h
      go_wp2_with fail
      go_ret
      exact ⟨by rw [E.out]; rfl, HB.out⟩

theorem refmay_step {xs : List Sp} {k : Nat} {x : Sp} (hx : xs[k]? = some x) (hm : mayB (xs.take k) = true) : mayB (xs.take (k + 1)) = (decide (x.1 < x.2) && decide (1 ≤ x.1) && decide (x.2 ≤ 1000000) && behindB (xs.take k) x) := by
  rw [take_snoc xs k x hx, may_snoc, hm]
  simp
theorem refmay_stop {xs : List Sp} {k : Nat} (h : mayB (xs.take k) = false) : mayB xs = false := by
  have := mayB_front (b := xs.drop k) h
  rwa [List.take_append_drop] at this
theorem refbehind {xs : List Sp} {j : Nat} {p x : Sp} (hp : xs[j]? = some p) : behindB (xs.take (j + 1)) x = decide (p.2 < x.1) := by
  unfold behindB
  rw [take_snoc xs j p hp, List.getLast?_append]
  rfl

set_option maxHeartbeats 4000000 in
set_option maxRecDepth 100000 in
theorem refmay_any (A : Option Addr) (c : Nat) (xs : List Sp) (w : World) (hA : Spans w A xs) (hn : xs.length ≤ 9223372036854775807) :
    Calls Tryz.prog 12 #[.slice A xs.length c] w fun e w' => e = .returned (.bool (mayB xs)) ∧ Below w.heap.size w w' := by
  have HA := Lib.hid hA
  clear hA
  go_enter Tryz.func12, Tryz.ntmps12
  go_wp2_with fail
  go_loopw [3] (fun i wr => ∃ (k : Nat), k ≤ xs.length ∧ i = .int .i64 k ∧ Hid (Below w.heap.size w wr) ∧ Hid (mayB (xs.take k) = true))
    (fun i _ => xs.length - (intOf i).toNat)
  case atStart => exact ⟨0, Nat.zero_le _, rfl, Below.refl _ _, rfl⟩
  case round =>
    obtain ⟨k, hk, rfl, HB, HM⟩ := hrel
    by_cases hlt : k < xs.length
    · obtain ⟨⟨x1, x2⟩, hx⟩ : ∃ x, xs[k]? = some x := ⟨_, List.getElem?_eq_getElem hlt⟩
      obtain ⟨b, off, rfl, hb, c1, c2⟩ := HA.out.below HB.out k _ hx
      have st := refmay_step hx HM.out
      simp only at st c1 c2
      have hlt' : (k : Int) < (xs.length : Int) := by omega
      have i0 : (0 : Int) ≤ (k : Int) := by omega
      have stop : mayB (xs.take (k + 1)) = false → Hid (mayB xs = false) := refmay_stop
      by_cases h1 : x1 < 1
      · have FIN := stop (by rw [st, show decide (1 ≤ x1) = false from by simpa using h1]; simp)
        have h1' := decide_eq_true h1
        clear st stop hx
        go_wp2_with fail
        go_quiet (fail)
        all_goals (go_wp2_with fail)
        all_goals go_ret
        all_goals exact ⟨by rw [FIN.out]; rfl, bdn HB.out _⟩
      · have h1' := decide_eq_false h1
        rw [show decide (1 ≤ x1) = true from by simpa using h1, Bool.and_true] at st
        by_cases h2 : 1000000 < x2
        · have FIN := stop (by rw [st, show decide (x2 ≤ 1000000) = false from by simpa using h2]; simp)
          have h2' := decide_eq_true h2
          clear st stop hx
          go_wp2_with fail
          go_quiet (fail)
          all_goals (go_wp2_with fail)
          all_goals go_ret
          all_goals exact ⟨by rw [FIN.out]; rfl, bdn HB.out _⟩
        · have h2' := decide_eq_false h2
          rw [show decide (x2 ≤ 1000000) = true from by simpa using h2, Bool.and_true] at st
          by_cases h3 : x2 ≤ x1
          · have FIN := stop (by rw [st, show decide (x1 < x2) = false from by simpa using h3]; rfl)
            have h3' := decide_eq_true h3
            clear st stop hx
            go_wp2_with fail
            go_quiet (fail)
            all_goals (go_wp2_with fail)
            all_goals go_ret
            all_goals exact ⟨by rw [FIN.out]; rfl, bdn HB.out _⟩
          · have h3' := decide_eq_false h3
            rw [show decide (x1 < x2) = true from by simpa using h3, Bool.true_and] at st
            rcases Nat.eq_zero_or_pos k with e | e
            · subst e
              simp only [Nat.zero_mul, Nat.add_zero] at c1 c2
              have ST : Hid (mayB (xs.take (0 + 1)) = true) := st
              clear st stop hx
              go_wp2_with fail
              go_quiet (fail)
              all_goals (go_wp2_with fail)
              all_goals go_roundw
              all_goals first
                | exact ⟨0 + 1, by omega, by go_num, bdn HB.out _, ST.out⟩
                | (simp [intOf]; omega)
            · obtain ⟨j, rfl⟩ : ∃ j, k = j + 1 := ⟨k - 1, by omega⟩
              obtain ⟨⟨p1, p2⟩, hp⟩ : ∃ x, xs[j]? = some x := ⟨_, List.getElem?_eq_getElem (by omega)⟩
              obtain ⟨b', off', e', hb2, _, d2⟩ := HA.out.below HB.out j _ hp
              injection e' with e'
              injection e' with e1 e2
              subst e1 e2
              rw [refbehind hp] at st
              simp only at st d2
              have w1 : IntKind.i64.wrap ((j : Int) + 1 - 1) = j := by rw [show (j : Int) + 1 - 1 = j by omega]; exact IntWalk.i64_in _ (by omega)
              have w2 : (0 : Int) ≤ (j : Int) := by omega
              have w3 : (j : Int) < (xs.length : Int) := by omega
              have w4 : (0 : Int) < (j : Int) + 1 := by omega
              have w5 : decide ((0 : Int) < (j : Int) + 1) = true := decide_eq_true w4
              by_cases h4 : x1 ≤ p2
              · have FIN := stop (by rw [st]; simpa using h4)
                have h4' := decide_eq_true h4
                clear st stop hx hp
                go_wp2_with fail
                go_quiet (fail)
                all_goals (go_wp2_with fail)
                all_goals go_ret
                all_goals exact ⟨by rw [FIN.out]; rfl, bdn HB.out _⟩
              · have h4' := decide_eq_false h4
                have ST : Hid (mayB (xs.take (j + 1 + 1)) = true) := by show _ = _; rw [st]; simpa using h4
                clear st stop hx hp
                go_wp2_with fail
                go_quiet (fail)
                all_goals (go_wp2_with fail)
                all_goals go_roundw
                all_goals first
                  | exact ⟨j + 1 + 1, by omega, by go_num, bdn HB.out _, ST.out⟩
                  | (simp [intOf]; omega)
    · have hlt' : ¬ (k : Int) < (xs.length : Int) := by omega
      have FIN : Hid (mayB xs = true) := by
        have h := HM.out
        rw [List.take_of_length_le (by omega)] at h
        exact h
      go_wp2_with fail
      go_ret
      exact ⟨by rw [FIN.out]; rfl, HB.out⟩

set_option maxHeartbeats 2000000 in
set_option maxRecDepth 100000 in
theorem refin_any (how : Int) (A B : Option Addr) (c d : Nat) (xs ys : List Sp) (no : Int) (w : World) (hA : Spans w A xs) (hB : Spans w B ys) (hn : xs.length ≤ 9223372036854775807) (hn2 : ys.length ≤ 9223372036854775807) :
    Calls Tryz.prog 37 #[.int .i64 how, .slice A xs.length c, .slice B ys.length d, .int .i64 no] w fun e w' => e = .returned (.bool (askB how xs ys no)) ∧ Below w.heap.size w w' := by
  have C1 := Lib.hid (refhas_any A c xs no w hA hn)
  have C2 : Hid (∀ W, Below w.heap.size w W → _) := fun W (h : Below w.heap.size w W) => refhas_any B d ys no W (hB.below h) hn2
  have E : Hid (askB how xs ys no = if how = 1 then hasA xs no || hasA ys no else if how = 2 then hasA xs no && !hasA ys no else if how = 3 then hasA xs no && hasA ys no else !hasA xs no) := rfl
  clear hA hB
  generalize askB how xs ys no = R at *
  generalize hasA xs no = p at *
  generalize hasA ys no = q at *
  by_cases h1 : how = 1
  · subst h1
    have E := Lib.hid (show R = (p || q) by rw [E.out, if_pos rfl])
    cases p
    all_goals
      go_enter Tryz.func37, Tryz.ntmps37
      go_wp2_with fail
      refine C1.out.mono ?_
      rintro e w1 ⟨rfl, hb1⟩
      have HB1 := Lib.hid hb1
      clear hb1
      go_wp2_with fail
      refine (C2.out _ HB1.out).mono ?_
      rintro e w2 ⟨rfl, hb2⟩
      have HB2 := Lib.hid (bt HB1.out hb2)
      clear hb2
      go_wp2_with fail
      go_ret
      exact ⟨by rw [E.out]; rfl, HB2.out⟩
  · have e1 : (how == 1) = false := by simpa using h1
    by_cases h2 : how = 2
    · subst h2
      have E := Lib.hid (show R = (p && !q) by rw [E.out, if_neg (by decide), if_pos rfl])
      clear h1 e1
      cases p
      all_goals
        go_enter Tryz.func37, Tryz.ntmps37
        go_wp2_with fail
        refine C1.out.mono ?_
        rintro e w1 ⟨rfl, hb1⟩
        have HB1 := Lib.hid hb1
        clear hb1
        go_wp2_with fail
        refine (C2.out _ HB1.out).mono ?_
        rintro e w2 ⟨rfl, hb2⟩
        have HB2 := Lib.hid (bt HB1.out hb2)
        clear hb2
        go_wp2_with fail
        go_ret
        exact ⟨by rw [E.out]; rfl, HB2.out⟩
    · have e2 : (how == 2) = false := by simpa using h2
      by_cases h3 : how = 3
      · subst h3
        have E := Lib.hid (show R = (p && q) by rw [E.out, if_neg (by decide), if_neg (by decide), if_pos rfl])
        clear h1 e1 h2 e2
        cases p
        all_goals
          go_enter Tryz.func37, Tryz.ntmps37
          go_wp2_with fail
          refine C1.out.mono ?_
          rintro e w1 ⟨rfl, hb1⟩
          have HB1 := Lib.hid hb1
          clear hb1
          go_wp2_with fail
          refine (C2.out _ HB1.out).mono ?_
          rintro e w2 ⟨rfl, hb2⟩
          have HB2 := Lib.hid (bt HB1.out hb2)
          clear hb2
          go_wp2_with fail
          go_ret
          exact ⟨by rw [E.out]; rfl, HB2.out⟩
      · have e3 : (how == 3) = false := by simpa using h3
        have E := Lib.hid (show R = (!p) by rw [E.out, if_neg h1, if_neg h2, if_neg h3])
        go_enter Tryz.func37, Tryz.ntmps37
        go_wp2_with fail
        refine C1.out.mono ?_
        rintro e w1 ⟨rfl, hb1⟩
        have HB1 := Lib.hid hb1
        clear hb1
        go_wp2_with fail
        refine (C2.out _ HB1.out).mono ?_
        rintro e w2 ⟨rfl, hb2⟩
        have HB2 := Lib.hid (bt HB1.out hb2)
        clear hb2
        go_wp2_with fail
        go_ret
        exact ⟨by rw [E.out]; rfl, HB2.out⟩
end Go.Proofs.YtbbaaaomncegiaaGreatDoor
