/-
  ranges.May, ranges.Has: whether spans are a choice; whether a number is chosen; below the heap's size nothing turns.
-/
import Derived.Test.YtbbaaaomncegiaaGreatDoorRna
import Derived.Test.YtbbaaaomncegiaaGreatDoorDel
import Derived.Test.YtbbaaaomncegiaaGreatDoorQbl
import Derived.IntWalk
namespace Go.Proofs.YtbbaaaomncegiaaGreatDoor
open Go.RowKit Go.Proofs.Spn Go.Proofs.Rng

theorem within_whole (x1 x2 : Int) (h : ¬ x2 ≤ x1) : withinS (x1, x2) (1, 1000000) = (decide (1 ≤ x1) && decide (x2 ≤ 1000000)) := by
  unfold withinS
  rw [show decide (x2 ≤ x1) = false by simpa using h, Bool.false_or]
theorem may_step {xs : List Sp} {k : Nat} {x : Sp} (hx : xs[k]? = some x) (hm : mayB (xs.take k) = true) : mayB (xs.take (k + 1)) = (decide (x.1 < x.2) && decide (1 ≤ x.1) && decide (x.2 ≤ 1000000) && behindB (xs.take k) x) := by
  rw [take_snoc xs k x hx, may_snoc, hm]
  simp
theorem may_stop {xs : List Sp} {k : Nat} (h : mayB (xs.take k) = false) : mayB xs = false := by
  have := mayB_front (b := xs.drop k) h
  rwa [List.take_append_drop] at this
theorem behind_next {xs : List Sp} {j : Nat} {p x : Sp} (hp : xs[j]? = some p) : behindB (xs.take (j + 1)) x = decide (p.2 < x.1) := by
  unfold behindB
  rw [take_snoc xs j p hp, List.getLast?_append]
  rfl

set_option maxHeartbeats 4000000 in
set_option maxRecDepth 100000 in
theorem may_any (A : Option Addr) (c : Nat) (xs : List Sp) (w : World) (hA : Spans w A xs) (hn : xs.length ≤ 9223372036854775807) :
    Calls Tryz.prog 24 #[.slice A xs.length c] w fun e w' => e = .returned (.bool (mayB xs)) ∧ Below w.heap.size w w' := by
  have HA := Lib.hid hA
  clear hA
  go_enter Tryz.func24, Tryz.ntmps24
  go_wp2_with fail
  go_loopw [7] (fun i wr => ∃ (k : Nat), k ≤ xs.length ∧ i = .int .i64 k ∧ Hid (Below w.heap.size w wr) ∧ Hid (mayB (xs.take k) = true))
    (fun i _ => xs.length - (intOf i).toNat)
  case atStart => exact ⟨0, Nat.zero_le _, rfl, Below.refl _ _, rfl⟩
  case round =>
    obtain ⟨k, hk, rfl, HB, HM⟩ := hrel
    by_cases hlt : k < xs.length
    · obtain ⟨⟨x1, x2⟩, hx⟩ : ∃ x, xs[k]? = some x := ⟨_, List.getElem?_eq_getElem hlt⟩
      obtain ⟨b, off, rfl, hb, c1, c2⟩ := HA.out.below HB.out k _ hx
      have st := may_step hx HM.out
      simp only at st c1 c2
      have hlt' : (k : Int) < (xs.length : Int) := by omega
      have cW := fun W => whole_any W
      have cI := fun W => within_any x1 x2 1 1000000 W
      have stop : mayB (xs.take (k + 1)) = false → Hid (mayB xs = false) := may_stop
      by_cases hg : x2 ≤ x1
      · have FIN := stop (by rw [st, show decide (x1 < x2) = false from by simpa using hg]; rfl)
        clear st stop hx
        go_wp2_with fail
        refine gen_world (F := fun W => Blk W wr.heap.size 24 #[.int .i64 x1, .int .i64 x2] ∧  Below w.heap.size w W) _ ⟨Blk.new wr _ _,  bl HB.out _⟩ ?_
        rintro W ⟨hP,  hB⟩
        have g0 := fun p : From W => (hP.keep p.below).cell 0
        have g1 := fun p : From W => (hP.keep p.below).cell 1
        refine wp_region_from (by kernel_rfl) (by kernel_rfl) ?_
        repeat (go_big_quiet_step (first | (go_at_call 28; exact calls_from (cW _)) | (go_at_call 47; exact calls_from (cI _))))
        refine wpQuiet_nil ?_
        intro _ hw'
        obtain ⟨p, rfl⟩ := hw'
        have HB2 := Lib.hid (bt hB p.below)
        generalize p.W = W2 at HB2 ⊢
        clear g0 g1 hP hB p
        go_wp2_with fail
        go_ret
        exact ⟨by rw [FIN.out]; rfl, HB2.out⟩
      · rw [within_whole x1 x2 hg] at cI
        rw [show decide (x1 < x2) = true from by simpa using hg, Bool.true_and] at st
        generalize (decide (1 ≤ x1) && decide (x2 ≤ 1000000)) = B at cI st
        have hd : decide (x2 ≤ x1) = false := by simpa using hg
        cases B with
        | false =>
          have FIN := stop (by rw [st]; rfl)
          clear st stop hx
          go_wp2_with fail
          refine gen_world (F := fun W => Blk W wr.heap.size 24 #[.int .i64 x1, .int .i64 x2] ∧  Below w.heap.size w W) _ ⟨Blk.new wr _ _,  bl HB.out _⟩ ?_
          rintro W ⟨hP,  hB⟩
          have g0 := fun p : From W => (hP.keep p.below).cell 0
          have g1 := fun p : From W => (hP.keep p.below).cell 1
          refine wp_region_from (by kernel_rfl) (by kernel_rfl) ?_
          repeat (go_big_quiet_step (first | (go_at_call 28; exact calls_from (cW _)) | (go_at_call 47; exact calls_from (cI _))))
          refine wpQuiet_nil ?_
          intro _ hw'
          obtain ⟨p, rfl⟩ := hw'
          have HB2 := Lib.hid (bt hB p.below)
          generalize p.W = W2 at HB2 ⊢
          clear g0 g1 hP hB p
          go_wp2_with fail
          go_ret
          exact ⟨by rw [FIN.out]; rfl, HB2.out⟩
        | true =>
          rw [Bool.true_and] at st
          rcases Nat.eq_zero_or_pos k with e | e
          · subst e
            simp only [Nat.zero_mul, Nat.add_zero] at c1 c2
            have ST : Hid (mayB (xs.take (0 + 1)) = true) := st
            clear st stop hx
            go_wp2_with fail
            refine gen_world (F := fun W => Blk W wr.heap.size 24 #[.int .i64 x1, .int .i64 x2] ∧  Below w.heap.size w W) _ ⟨Blk.new wr _ _,  bl HB.out _⟩ ?_
            rintro W ⟨hP,  hB⟩
            have g0 := fun p : From W => (hP.keep p.below).cell 0
            have g1 := fun p : From W => (hP.keep p.below).cell 1
            refine wp_region_from (by kernel_rfl) (by kernel_rfl) ?_
            repeat (go_big_quiet_step (first | (go_at_call 28; exact calls_from (cW _)) | (go_at_call 47; exact calls_from (cI _))))
            refine wpQuiet_nil ?_
            intro _ hw'
            obtain ⟨p, rfl⟩ := hw'
            have HB2 := Lib.hid (bt hB p.below)
            generalize p.W = W2 at HB2 ⊢
            clear g0 g1 hP hB p
            go_wp2_with fail
            go_roundw
            case rel => exact ⟨0 + 1, by omega, by go_num, HB2, ST.out⟩
            case measure => simp [intOf]; omega
          · obtain ⟨j, rfl⟩ : ∃ j, k = j + 1 := ⟨k - 1, by omega⟩
            obtain ⟨⟨p1, p2⟩, hp⟩ : ∃ x, xs[j]? = some x := ⟨_, List.getElem?_eq_getElem (by omega)⟩
            obtain ⟨b', off', e', hb2, _, d2⟩ := HA.out.below HB.out j _ hp
            injection e' with e'
            injection e' with e1 e2
            subst e1 e2
            rw [behind_next hp] at st
            simp only at st d2
            have w1 : IntKind.i64.wrap ((j : Int) + 1 - 1) = j := by rw [show (j : Int) + 1 - 1 = j by omega]; exact IntWalk.i64_in _ (by omega)
            have w2 : (0 : Int) ≤ (j : Int) := by omega
            have w3 : (j : Int) < (xs.length : Int) := by omega
            have w4 : (0 : Int) < (j : Int) + 1 := by omega
            have w5 : decide ((0 : Int) < (j : Int) + 1) = true := decide_eq_true w4
            by_cases h3 : p2 < x1
            · have ST : Hid (mayB (xs.take (j + 1 + 1)) = true) := by show _ = _; rw [st]; simpa using h3
              have h3' : ¬ x1 ≤ p2 := by omega
              have h4 : decide (x1 ≤ p2) = false := by simpa using h3'
              clear st stop hx hp
              go_wp2_with fail
              refine gen_world (F := fun W => Blk W wr.heap.size 24 #[.int .i64 x1, .int .i64 x2] ∧ W.cell? ⟨b, off + j * 2 + 1, none⟩ = some (.int .i64 p2) ∧ Below w.heap.size w W) _ ⟨Blk.new wr _ _, ((bl (Below.refl _ _) _).cell (p := ⟨b, off + j * 2 + 1, none⟩) hb2).trans d2, bl HB.out _⟩ ?_
              rintro W ⟨hP, h2, hB⟩
              have g0 := fun p : From W => (hP.keep p.below).cell 0
              have g1 := fun p : From W => (hP.keep p.below).cell 1
              have g2 := fun p : From W => From.cell h2 p
              refine wp_region_from (by kernel_rfl) (by kernel_rfl) ?_
              repeat (go_big_quiet_step (first | (go_at_call 28; exact calls_from (cW _)) | (go_at_call 47; exact calls_from (cI _))))
              refine wpQuiet_nil ?_
              intro _ hw'
              obtain ⟨p, rfl⟩ := hw'
              have HB2 := Lib.hid (bt hB p.below)
              generalize p.W = W2 at HB2 ⊢
              clear g0 g1 g2 hP hB h2 p
              go_wp2_with fail
              go_roundw
              case rel => exact ⟨j + 1 + 1, by omega, by go_num, HB2, ST.out⟩
              case measure => simp [intOf]; omega
            · have FIN := stop (by rw [st]; simpa using h3)
              have h3' : x1 ≤ p2 := by omega
              have h4 : decide (x1 ≤ p2) = true := decide_eq_true h3'
              clear st stop hx hp
              go_wp2_with fail
              refine gen_world (F := fun W => Blk W wr.heap.size 24 #[.int .i64 x1, .int .i64 x2] ∧ W.cell? ⟨b, off + j * 2 + 1, none⟩ = some (.int .i64 p2) ∧ Below w.heap.size w W) _ ⟨Blk.new wr _ _, ((bl (Below.refl _ _) _).cell (p := ⟨b, off + j * 2 + 1, none⟩) hb2).trans d2, bl HB.out _⟩ ?_
              rintro W ⟨hP, h2, hB⟩
              have g0 := fun p : From W => (hP.keep p.below).cell 0
              have g1 := fun p : From W => (hP.keep p.below).cell 1
              have g2 := fun p : From W => From.cell h2 p
              refine wp_region_from (by kernel_rfl) (by kernel_rfl) ?_
              repeat (go_big_quiet_step (first | (go_at_call 28; exact calls_from (cW _)) | (go_at_call 47; exact calls_from (cI _))))
              refine wpQuiet_nil ?_
              intro _ hw'
              obtain ⟨p, rfl⟩ := hw'
              have HB2 := Lib.hid (bt hB p.below)
              generalize p.W = W2 at HB2 ⊢
              clear g0 g1 g2 hP hB h2 p
              go_wp2_with fail
              go_ret
              exact ⟨by rw [FIN.out]; rfl, HB2.out⟩
    · have hlt' : ¬ (k : Int) < (xs.length : Int) := by omega
      have FIN : Hid (mayB xs = true) := by
        have h := HM.out
        rw [List.take_of_length_le (by omega)] at h
        exact h
      go_wp2_with fail
      go_ret
      exact ⟨by rw [FIN.out]; rfl, HB.out⟩
end Go.Proofs.YtbbaaaomncegiaaGreatDoor
