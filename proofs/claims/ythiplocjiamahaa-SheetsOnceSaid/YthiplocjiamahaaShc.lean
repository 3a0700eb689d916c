/-
  sheets.of: which way a plan has, and whether it is one; below the heap's size at the call nothing turns.
-/
import Derived.Test.YthiplocjiamahaaShb
import Derived.Deep.RegionHeld3
namespace Go.Proofs.Ythiplocjiamahaa
open Go.RowKit Go.Proofs.Shs

abbrev fnV (g : Nat) : Value := .func (.func g) #[] #[]

set_option maxHeartbeats 1000000 in
theorem of_no (kd r c s sh : Int) (w : World) (h : kd < 1 ∨ 2 < kd) :
    Calls Try.prog 24 #[.agg #[.int .i64 kd, .int .i64 r, .int .i64 c, .int .i64 s, .int .i64 sh]] w fun e w' => e = .returned (.tuple #[.agg #[.nilFunc, .nilFunc, .nilFunc], .bool false]) ∧ Below w.heap.size w w' := by
  have z : ∀ w : World, Blk ((w.alloc (.cells #[.int .i64 kd, .int .i64 r, .int .i64 c, .int .i64 s, .int .i64 sh] 23)).alloc (.cells #[.nilFunc, .nilFunc, .nilFunc] 48)) (w.heap.size + 1) 48 #[.nilFunc, .nilFunc, .nilFunc] := fun w => by simpa using Blk.new (w.alloc _) _ _
  rcases h with h | h
  all_goals
    go_enter Try.func24, Try.ntmps24
    go_wp2_with fail
    exact bodyPost_ret (v := .tuple #[.agg #[.nilFunc, .nilFunc, .nilFunc], .bool false]) (by simp [results, Try.results24, go_sem]) rfl ⟨rfl, bl (bl (Below.refl _ _) _) _⟩

set_option maxHeartbeats 4000000 in
theorem of_grid (r c s sh : Int) (b : Bool) (w : World) (hm : ∀ W, Calls Try.prog 40 #[.agg #[.int .i64 1, .int .i64 r, .int .i64 c, .int .i64 s, .int .i64 sh]] W fun e w' => e = .returned (.bool b) ∧ Below W.heap.size W w') :
    Calls Try.prog 24 #[.agg #[.int .i64 1, .int .i64 r, .int .i64 c, .int .i64 s, .int .i64 sh]] w fun e w' => e = .returned (.tuple #[.agg #[fnV 40, fnV 41, fnV 42], .bool b]) ∧ Below w.heap.size w w' := by
  have HM := Lib.hid hm
  clear hm
  have ix : ∀ w, (Instr.index 61 (.agg #[.nilFunc, .nilFunc, .nilFunc, fnV 40, fnV 41, fnV 42, fnV 43, fnV 44, fnV 45]) (.int .i64 1)).run Try.prog w = .ok (.agg #[fnV 40, fnV 41, fnV 42]) w := fun _ => by kernel_rfl
  go_enter Try.func24, Try.ntmps24
  go_wp2_with fail
  refine gen_world (F := fun W => Blk W w.heap.size 23 #[.int .i64 1, .int .i64 r, .int .i64 c, .int .i64 s, .int .i64 sh] ∧ Blk W (w.heap.size + 1) 48 #[.nilFunc, .nilFunc, .nilFunc] ∧ Below w.heap.size w W) _ ⟨(Blk.new w _ _).alloc _, by simpa using Blk.new (w.alloc _) _ _, bl (bl (Below.refl _ _) _) _⟩ ?_
  rintro W ⟨hP, hR, hB⟩
  have HP := Lib.hid hP
  have HR := Lib.hid hR
  have HB := Lib.hid hB
  have k0 := hP.cell 0
  have hz : w.heap.size < W.heap.size := hP.lt
  clear hP hR hB
  go_region_held3 (fun w' => w'.cell? ⟨w.heap.size, 0, none⟩ = some (.int .i64 1))
    (first
      | (exact k0)
      | (exact a1)
      | go_keep
      | (exact (World.cell?_alloc_lt w1 _ ⟨w.heap.size, 0, none⟩ (Nat.lt_of_lt_of_le hz hq2.size)).trans a1)
      | (have ne : W.heap.size ≠ w.heap.size := by omega
         exact (World.cell?_setCell_far _ _ _ _ ne).trans ((World.cell?_setCell_far _ _ _ _ ne).trans ((World.cell?_setCell_far _ _ _ _ ne).trans a1))))
    (first
      | (go_at_call 33
         refine (ways_any _).mono ?_
         rintro e w1 ⟨rfl, hq⟩
         first
           | (have Z := (Blk.new W 48 #[.nilFunc, .nilFunc, .nilFunc]).drew.below hq (by simp)
              obtain ⟨z1, z2, z3⟩ := Z.facts3
              obtain ⟨z4, z5, z6⟩ := Z.free3
              have hq2 : Below W.heap.size W w1 := (bl (Below.refl _ _) _).drew.trans (Below.mono hq (by simp))
              have a1 := (hq2.cell (p := ⟨w.heap.size, 0, none⟩) hz).trans k0)
           | (have hq2 : Below W.heap.size W w1 := ⟨hq.os, hq.tape, hq.output, hq.size, hq.block⟩
              have a1 := (hq2.cell (p := ⟨w.heap.size, 0, none⟩) hz).trans k0)))
  all_goals
    first
      | (refine gen_world (F := fun X => Below W.heap.size W X ∧ Blk X w1.heap.size 48 #[fnV 40, fnV 41, fnV 42]) (G := Exit.then _ _ _ _) _ ⟨bl hq2 _, Blk.new w1 _ _⟩ ?_
         rintro X ⟨hBX, hZ⟩
         have hM := hq2.size
         clear hq hq2 a1
         generalize w1.heap.size = M at hZ hM ⊢)
      | (refine gen_world (F := fun X => Below W.heap.size W X ∧ Blk X W.heap.size 48 #[fnV 40, fnV 41, fnV 42]) (G := Exit.then _ _ _ _) _ ⟨bset3 hq2 (Nat.le_refl _) _ _ _, Z.set3 _ _ _⟩ ?_
         rintro X ⟨hBX, hZ⟩
         clear hq hq2 a1 Z z1 z2 z3 z4 z5 z6
         generalize hE : W.heap.size = M at hZ ⊢
         have hM : W.heap.size ≤ M := Nat.le_of_eq hE
         clear hE)
    have HX := Lib.hid hBX
    have HPX := Lib.hid (HP.out.keep hBX)
    have HRX := Lib.hid (HR.out.keep hBX)
    have HBX := Lib.hid (bt HB.out hBX)
    have HZ := Lib.hid hZ
    clear hBX hZ HX HP HR HB k0 hz
    go_wp2_with fail
    have g0 := fun p : From X => (HZ.out.keep p.below).cell 0
    have g1 := fun p : From X => (HZ.out.keep p.below).cell 1
    have g2 := fun p : From X => (HZ.out.keep p.below).cell 2
    have g3 := fun p : From X => (HPX.out.keep p.below).cell 0
    have g4 := fun p : From X => (HPX.out.keep p.below).cell 1
    have g5 := fun p : From X => (HPX.out.keep p.below).cell 2
    have g6 := fun p : From X => (HPX.out.keep p.below).cell 3
    have g7 := fun p : From X => (HPX.out.keep p.below).cell 4
    refine wp_region_from_tail 5 (by kernel_rfl) (by kernel_rfl) ?_
    simp only [List.take_succ_cons, List.take_zero, List.drop_succ_cons, List.drop_zero]
    repeat (go_big_quiet_step (first | (go_at_call 40; exact calls_from (HM.out _))))
    refine wpQuiet_nil ?_
    intro _ hw'
    obtain ⟨p, rfl⟩ := hw'
    have HB9 := Lib.hid (bt HBX.out p.below)
    have hR9 := HRX.out.keep p.below
    have hz9 := HRX.out.lt
    generalize p.W = X9 at HB9 hR9 ⊢
    clear g0 g1 g2 g3 g4 g5 g6 g7 HPX HRX HBX HZ p
    obtain ⟨z0, z1, z2⟩ := hR9.facts3
    obtain ⟨y0, y1, y2⟩ := hR9.free3
    go_wp2_with fail
    refine gen_world (F := fun W => Blk W (w.heap.size + 1) 48 #[fnV 40, fnV 41, fnV 42] ∧ Below w.heap.size w W) _ ⟨hR9.set3 _ _ _, bset3 HB9.out (by omega) _ _ _⟩ ?_
    rintro W3 ⟨hR3, hB3⟩
    obtain ⟨z0, z1, z2⟩ := hR3.facts3
    exact bodyPost_ret (v := .tuple #[.agg #[fnV 40, fnV 41, fnV 42], .bool b]) (by simp [results, Try.results24, go_sem, z0, z1, z2]) rfl ⟨rfl, hB3⟩

set_option maxHeartbeats 4000000 in
theorem of_book (r c s sh : Int) (b : Bool) (w : World) (hm : ∀ W, Calls Try.prog 43 #[.agg #[.int .i64 2, .int .i64 r, .int .i64 c, .int .i64 s, .int .i64 sh]] W fun e w' => e = .returned (.bool b) ∧ Below W.heap.size W w') :
    Calls Try.prog 24 #[.agg #[.int .i64 2, .int .i64 r, .int .i64 c, .int .i64 s, .int .i64 sh]] w fun e w' => e = .returned (.tuple #[.agg #[fnV 43, fnV 44, fnV 45], .bool b]) ∧ Below w.heap.size w w' := by
  have HM := Lib.hid hm
  clear hm
  have ix : ∀ w, (Instr.index 61 (.agg #[.nilFunc, .nilFunc, .nilFunc, fnV 40, fnV 41, fnV 42, fnV 43, fnV 44, fnV 45]) (.int .i64 2)).run Try.prog w = .ok (.agg #[fnV 43, fnV 44, fnV 45]) w := fun _ => by kernel_rfl
  go_enter Try.func24, Try.ntmps24
  go_wp2_with fail
  refine gen_world (F := fun W => Blk W w.heap.size 23 #[.int .i64 2, .int .i64 r, .int .i64 c, .int .i64 s, .int .i64 sh] ∧ Blk W (w.heap.size + 1) 48 #[.nilFunc, .nilFunc, .nilFunc] ∧ Below w.heap.size w W) _ ⟨(Blk.new w _ _).alloc _, by simpa using Blk.new (w.alloc _) _ _, bl (bl (Below.refl _ _) _) _⟩ ?_
  rintro W ⟨hP, hR, hB⟩
  have HP := Lib.hid hP
  have HR := Lib.hid hR
  have HB := Lib.hid hB
  have k0 := hP.cell 0
  have hz : w.heap.size < W.heap.size := hP.lt
  clear hP hR hB
  go_region_held3 (fun w' => w'.cell? ⟨w.heap.size, 0, none⟩ = some (.int .i64 2))
    (first
      | (exact k0)
      | (exact a1)
      | go_keep
      | (exact (World.cell?_alloc_lt w1 _ ⟨w.heap.size, 0, none⟩ (Nat.lt_of_lt_of_le hz hq2.size)).trans a1)
      | (have ne : W.heap.size ≠ w.heap.size := by omega
         exact (World.cell?_setCell_far _ _ _ _ ne).trans ((World.cell?_setCell_far _ _ _ _ ne).trans ((World.cell?_setCell_far _ _ _ _ ne).trans a1))))
    (first
      | (go_at_call 33
         refine (ways_any _).mono ?_
         rintro e w1 ⟨rfl, hq⟩
         first
           | (have Z := (Blk.new W 48 #[.nilFunc, .nilFunc, .nilFunc]).drew.below hq (by simp)
              obtain ⟨z1, z2, z3⟩ := Z.facts3
              obtain ⟨z4, z5, z6⟩ := Z.free3
              have hq2 : Below W.heap.size W w1 := (bl (Below.refl _ _) _).drew.trans (Below.mono hq (by simp))
              have a1 := (hq2.cell (p := ⟨w.heap.size, 0, none⟩) hz).trans k0)
           | (have hq2 : Below W.heap.size W w1 := ⟨hq.os, hq.tape, hq.output, hq.size, hq.block⟩
              have a1 := (hq2.cell (p := ⟨w.heap.size, 0, none⟩) hz).trans k0)))
  all_goals
    first
      | (refine gen_world (F := fun X => Below W.heap.size W X ∧ Blk X w1.heap.size 48 #[fnV 43, fnV 44, fnV 45]) (G := Exit.then _ _ _ _) _ ⟨bl hq2 _, Blk.new w1 _ _⟩ ?_
         rintro X ⟨hBX, hZ⟩
         have hM := hq2.size
         clear hq hq2 a1
         generalize w1.heap.size = M at hZ hM ⊢)
      | (refine gen_world (F := fun X => Below W.heap.size W X ∧ Blk X W.heap.size 48 #[fnV 43, fnV 44, fnV 45]) (G := Exit.then _ _ _ _) _ ⟨bset3 hq2 (Nat.le_refl _) _ _ _, Z.set3 _ _ _⟩ ?_
         rintro X ⟨hBX, hZ⟩
         clear hq hq2 a1 Z z1 z2 z3 z4 z5 z6
         generalize hE : W.heap.size = M at hZ ⊢
         have hM : W.heap.size ≤ M := Nat.le_of_eq hE
         clear hE)
    have HX := Lib.hid hBX
    have HPX := Lib.hid (HP.out.keep hBX)
    have HRX := Lib.hid (HR.out.keep hBX)
    have HBX := Lib.hid (bt HB.out hBX)
    have HZ := Lib.hid hZ
    clear hBX hZ HX HP HR HB k0 hz
    go_wp2_with fail
    have g0 := fun p : From X => (HZ.out.keep p.below).cell 0
    have g1 := fun p : From X => (HZ.out.keep p.below).cell 1
    have g2 := fun p : From X => (HZ.out.keep p.below).cell 2
    have g3 := fun p : From X => (HPX.out.keep p.below).cell 0
    have g4 := fun p : From X => (HPX.out.keep p.below).cell 1
    have g5 := fun p : From X => (HPX.out.keep p.below).cell 2
    have g6 := fun p : From X => (HPX.out.keep p.below).cell 3
    have g7 := fun p : From X => (HPX.out.keep p.below).cell 4
    refine wp_region_from_tail 5 (by kernel_rfl) (by kernel_rfl) ?_
    simp only [List.take_succ_cons, List.take_zero, List.drop_succ_cons, List.drop_zero]
    repeat (go_big_quiet_step (first | (go_at_call 43; exact calls_from (HM.out _))))
    refine wpQuiet_nil ?_
    intro _ hw'
    obtain ⟨p, rfl⟩ := hw'
    have HB9 := Lib.hid (bt HBX.out p.below)
    have hR9 := HRX.out.keep p.below
    have hz9 := HRX.out.lt
    generalize p.W = X9 at HB9 hR9 ⊢
    clear g0 g1 g2 g3 g4 g5 g6 g7 HPX HRX HBX HZ p
    obtain ⟨z0, z1, z2⟩ := hR9.facts3
    obtain ⟨y0, y1, y2⟩ := hR9.free3
    go_wp2_with fail
    refine gen_world (F := fun W => Blk W (w.heap.size + 1) 48 #[fnV 43, fnV 44, fnV 45] ∧ Below w.heap.size w W) _ ⟨hR9.set3 _ _ _, bset3 HB9.out (by omega) _ _ _⟩ ?_
    rintro W3 ⟨hR3, hB3⟩
    obtain ⟨z0, z1, z2⟩ := hR3.facts3
    exact bodyPost_ret (v := .tuple #[.agg #[fnV 43, fnV 44, fnV 45], .bool b]) (by simp [results, Try.results24, go_sem, z0, z1, z2]) rfl ⟨rfl, hB3⟩

end Go.Proofs.Ythiplocjiamahaa
