/-
  sheets.Read of no slots; the chapter's examples hold: gatefoldlaw33.awake returns true; below the heap's size at the call nothing turns.
-/
import Derived.Test.YthiplocjiamahaaShw
namespace Go.Proofs.Ythiplocjiamahaa
open Go.RowKit Go.Proofs.Shs

set_option maxHeartbeats 1000000 in
theorem index_none (A : Option Addr) (cp : Nat) (f : Value) (w : World) : Calls Try.prog 39 #[.slice A 0 cp, f] w fun e w' => e = .returned (.int .i64 (-1)) ∧ w = w' := by
  go_enter Try.func39, Try.ntmps39
  go_wp2_with fail
  go_loopw [8] (fun i wr => i = .int .i64 0 ∧ w = wr) (fun _ _ => 0)
  case atStart => exact ⟨rfl, rfl⟩
  case round =>
    obtain ⟨rfl, rfl⟩ := hrel
    go_wp2_with fail
    go_ret
    exact ⟨rfl, rfl⟩
set_option maxHeartbeats 1000000 in
theorem contains_none (A : Option Addr) (cp : Nat) (f : Value) (w : World) : Calls Try.prog 30 #[.slice A 0 cp, f] w fun e w' => e = .returned (.bool false) ∧ w = w' := by
  go_enter Try.func30, Try.ntmps30
  go_wp2_with fail
  refine (index_none A cp f _).mono ?_
  rintro e w' ⟨rfl, rfl⟩
  go_wp2_with fail
  go_ret
  exact ⟨rfl, rfl⟩

set_option maxHeartbeats 4000000 in
theorem read_none (w : World) : Calls Try.prog 16 #[.agg #[.int .i64 2, .int .i64 1, .int .i64 2, .int .i64 2, .int .i64 1], .slice none 0 0] w fun e w' => (∃ v, e = .returned (.tuple #[v, .bool true])) ∧ Below w.heap.size w w' := by
  have co := fun W => of_any 2 1 2 2 1 W
  rw [show mayP ⟨2, 1, 2, 2, 1⟩ = true by decide, wayV_book] at co
  have ca := fun W => all_any 2 1 2 2 1 0 W
  unfold GivesAll at ca
  rw [show allP ⟨2, 1, 2, 2, 1⟩ 0 = [] by decide] at ca
  simp only [List.length_nil] at ca
  have hmm := @run_makeMap Try.prog
  have hmk : ∀ w, (Instr.makeSlice 31 (.int .i64 0) (.int .i64 0)).run Try.prog w = .ok (.slice (some ⟨w.heap.size, 0, none⟩) 0 0) (w.alloc (.cells #[] 3)) := fun _ => by kernel_rfl
  go_enter Try.func16, Try.ntmps16
  go_wp2_with fail
  refine (co _).mono ?_
  rintro e w1 ⟨rfl, hb⟩
  have hP := (Blk.new w 23 #[.int .i64 2, .int .i64 1, .int .i64 2, .int .i64 2, .int .i64 1]).keep hb
  have hz : w.heap.size < w1.heap.size := hP.lt
  obtain ⟨p0, p1, p2, p3, p4⟩ := hP.facts5
  have B1 := Lib.hid (bt (bl (Below.refl _ _) _) hb)
  clear hb
  go_wp2_with fail
  refine gen_world (F := fun W => Blk W w.heap.size 23 #[.int .i64 2, .int .i64 1, .int .i64 2, .int .i64 2, .int .i64 1] ∧ Blk W (w1.heap.size + 1 + 1) 54 #[.map (some (w1.heap.size + 1))] ∧ W.ownsMap (H := Unit) Try.prog 56 (plainElem Try.prog 3) (w1.heap.size + 1) 0 (.map []) ∧ Below w.heap.size w W) _ ⟨((hP.alloc _).alloc _).alloc _, by simpa using Blk.new ((w1.alloc _).alloc _) _ _, by have := (World.ownsMap_made (H := Unit) (w1.alloc (.cells #[fnV 43, fnV 44, fnV 45] 48)) Try.prog 56 (plainElem Try.prog 3)).alloc (.cells #[.map (some (w1.heap.size + 1))] 54); simpa using this, bl (bl (bl B1.out _) _) _⟩ ?_
  rintro W ⟨hP, hM, hO, hB⟩
  have HP := Lib.hid hP
  have HM := Lib.hid hM
  have HO := Lib.hid hO
  have HB := Lib.hid hB
  clear hP hM hO hB p0 p1 p2 p3 p4 B1
  generalize w1.heap.size + 1 = g at HM HO ⊢
  go_loopw [8, 39] (fun n i wr => n = .int .i64 0 ∧ i = .int .i64 0 ∧ W = wr) (fun _ _ _ => 0)
  case atStart => exact ⟨rfl, rfl, rfl⟩
  case round =>
    obtain ⟨rfl, rfl, rfl⟩ := hrel
    obtain ⟨p0, p1, p2, p3, p4⟩ := HP.out.facts5
    go_wp2_with fail
    refine (ca _).mono ?_
    rintro e w2 ⟨A, cp, rfl, _, _, _, hb2⟩
    have m0 := (HM.out.keep hb2).cell 0
    have hlen := (HO.out.kept (row := none) ⟨hb2.os, hb2.tape, hb2.output, hb2.size, fun k hk _ => hb2.block k hk⟩ (by simp)).len Try.underlying54
    rw [show Maps.size (H := Unit) (.map []) = 0 from rfl] at hlen
    have B2 := Lib.hid (bt HB.out hb2)
    clear hb2 p0 p1 p2 p3 p4
    go_wp2_with fail
    refine (contains_none _ _ _ _).mono ?_
    rintro e w' ⟨rfl, rfl⟩
    go_wp2_with fail
    go_ret2
    exact ⟨⟨_, rfl⟩, by repeat (first | exact B2.out | refine bl ?_ _)⟩

set_option maxRecDepth 100000 in
set_option maxHeartbeats 4000000 in
theorem awake_any (w : World) : Calls Try.prog 8 #[] w fun e w' => e = .returned (.bool true) ∧ Below w.heap.size w w' := by
  have m1 : mayP ⟨1, 0, 1, 1, 0⟩ = false := by decide
  have m2 : mayP ⟨2, 1, 2, 2, 64⟩ = true := by decide
  have c1 := fun W => may_any 1 0 1 1 0 W
  have c2 := fun W => may_any 2 1 2 2 64 W
  rw [m1] at c1
  rw [m2] at c2
  have p1 := fun (A : Option Addr) (W : World) (h : RowAt encI 1 W A [0, 1, 2, 3, 4, -1, -1, -1]) => put_yes 1 1 2 2 0 5 2 A 8 [0, 1, 2, 3, 4, -1, -1, -1] W h (by decide) (by decide)
  have p2 := fun (A : Option Addr) (W : World) (h : RowAt encI 1 W A [7, 0, 1, 6, 5, 2, 3, 4]) => put_yes 2 1 2 2 2 8 2 A 8 [7, 0, 1, 6, 5, 2, 3, 4] W h (by decide) (by decide)
  have p3 := fun (A : Option Addr) (W : World) (h : RowAt encI 1 W A [7, 0, 1, 6, 5, 2, 3, 4, -1, 8, 9, -1]) => put_yes 2 1 2 2 2 10 3 A 12 [7, 0, 1, 6, 5, 2, 3, 4, -1, 8, 9, -1] W h (by decide) (by decide)
  have P1 := Lib.hid p1
  have P2 := Lib.hid p2
  have P3 := Lib.hid p3
  clear m1 m2 p1 p2 p3
  go_enter Try.func8, Try.ntmps8
  go_wp2_with fail
  refine (lbooks_any _ _).mono ?_
  rintro e w1 ⟨rfl, hb1⟩
  go_wp2_with fail
  refine (read_none _).mono ?_
  rintro e w2 ⟨⟨v, rfl⟩, hb2⟩
  go_wp2_with fail
  refine (lgrid_any _ _ _ _).mono ?_
  rintro e w3 ⟨rfl, hb3⟩
  go_wp2_with fail
  refine (P1.out _ _ (RowAt.new encI_len w3 3 _)).mono ?_
  rintro e w4 ⟨rfl, hb4⟩
  go_wp2_with fail
  refine (lbooks_any _ _).mono ?_
  rintro e w5 ⟨rfl, hb5⟩
  go_wp2_with fail
  refine (P2.out _ _ (RowAt.new encI_len w5 3 _)).mono ?_
  rintro e w6 ⟨rfl, hb6⟩
  go_wp2_with fail
  refine (lbooks_any _ _).mono ?_
  rintro e w7 ⟨rfl, hb7⟩
  go_wp2_with fail
  refine (P3.out _ _ (RowAt.new encI_len w7 3 _)).mono ?_
  rintro e w8 ⟨rfl, hb8⟩
  go_wp2_with fail
  refine (lgrid_any _ _ _ _).mono ?_
  rintro e w9 ⟨rfl, hb9⟩
  go_wp2_with fail
  refine (c1 _).mono ?_
  rintro e w10 ⟨rfl, hb10⟩
  go_wp2_with fail
  refine (lbooks_any _ _).mono ?_
  rintro e w11 ⟨rfl, hb11⟩
  go_wp2_with fail
  refine (c2 _).mono ?_
  rintro e w12 ⟨rfl, hb12⟩
  go_wp2_with fail
  go_ret
  refine ⟨rfl, ?_⟩
  repeat (first | exact Below.refl _ _ | refine bl ?_ _ | refine bt ?_ (by assumption))
end Go.Proofs.Ythiplocjiamahaa
