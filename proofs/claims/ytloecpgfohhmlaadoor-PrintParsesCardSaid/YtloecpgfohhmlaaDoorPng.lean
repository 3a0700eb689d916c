/-
  print.lists; (*print.reader).take of what may not stand there.
-/
import Derived.Test.YtloecpgfohhmlaaDoorPnf
import Derived.RegionTactic
import Derived.ChangeAlike
namespace Go.Proofs.YtloecpgfohhmlaaDoor
open Go.RowKit Go.Proofs.Prn

set_option maxHeartbeats 4000000 in
set_option maxRecDepth 100000 in
theorem lists_any (b off : Nat) (w : World) : Calls Tryd.prog 19 #[.pointer (some ⟨b, off, none⟩)] w fun e w' =>
    e = .returned (.agg #[.pointer (some ⟨b, off + 2, none⟩), .pointer (some ⟨b, off + 3, none⟩), .pointer (some ⟨b, off + 4, none⟩)]) ∧ Below w.heap.size w w' := by
  go_enter Tryd.func19, Tryd.ntmps19
  go_wp2_with fail
  go_region
  all_goals go_wp2_with fail
  all_goals refine bodyPost_ret (v := .agg #[.pointer (some ⟨b, off + 2, none⟩), .pointer (some ⟨b, off + 3, none⟩), .pointer (some ⟨b, off + 4, none⟩)]) (by simp [results, Tryd.results19, go_sem]) rfl ⟨rfl, ?_⟩
  all_goals repeat (first | exact Below.refl _ _ | refine bl ?_ _ | refine bd ?_ | refine bset ?_ (by simp) _)

set_option maxHeartbeats 4000000 in
set_option maxRecDepth 100000 in
theorem take_wrong (R : Nat) (w : World) :
    Calls Tryd.prog 25 #[.pointer (some ⟨R, 0, none⟩), tellV .wrong] w fun e w' => e = .returned (.bool false) ∧ Below w.heap.size w w' := by
  have ta := fun v W => ta_page_no 90 v (by decide) W
  have tb := fun v W => ta_part_no 90 v (by decide) W
  unfold tellV
  go_enter Tryd.func25, Tryd.ntmps25
  go_wp2_with fail
  go_quiet (fail)
  go_wp2_with fail
  go_ret
  exact ⟨rfl, by repeat (first | exact Below.refl _ _ | refine bl ?_ _ | refine bd ?_ | refine bdn ?_ _ | refine bset ?_ (by simp) _)⟩

set_option maxHeartbeats 4000000 in
set_option maxRecDepth 100000 in
theorem take_empty (R : Nat) (v : Sl) (last : Value) (f : Frag) (k : Nat) (w : World) (hR : Blk w R 62 #[v.v, last]) (hv : v.n = 0) :
    Calls Tryd.prog 25 #[.pointer (some ⟨R, 0, none⟩), tellV (.part f k)] w fun e w' => e = .returned (.bool false) ∧ Below w.heap.size w w' := by
  obtain ⟨A, n, c⟩ := v
  simp only at hv
  subst hv
  have ta := fun v W => ta_page_no 85 v (by decide) W
  have tb := fun v W => ta_part v W
  have HR := Lib.hid hR
  have r0a := hR.cell 0
  have r0b : ∀ o, (w.alloc o).cell? ⟨R, 0, none⟩ = some (.slice A 0 c) := fun o => (World.cell?_alloc_lt w o ⟨R, 0, none⟩ HR.out.lt).trans r0a
  have r0c : ∀ o p, ((w.alloc o).alloc p).cell? ⟨R, 0, none⟩ = some (.slice A 0 c) := fun o p => (World.cell?_alloc_lt (w.alloc o) p ⟨R, 0, none⟩ (by have := HR.out.lt; simp; omega)).trans (r0b o)
  clear hR
  unfold tellV
  go_enter Tryd.func25, Tryd.ntmps25
  go_wp2_with fail
  go_quiet (fail)
  go_wp2_with fail
  go_ret
  exact ⟨rfl, by repeat (first | exact Below.refl _ _ | refine bl ?_ _ | refine bd ?_ | refine bdn ?_ _ | refine bset ?_ (by simp) _)⟩

set_option maxHeartbeats 4000000 in
set_option maxRecDepth 100000 in
theorem take_low (R : Nat) (v : Sl) (last : Nat) (f : Frag) (k : Nat) (w : World) (hR : Blk w R 62 #[v.v, .int .i64 last]) (hv : 0 < v.n) (hk : k < last) :
    Calls Tryd.prog 25 #[.pointer (some ⟨R, 0, none⟩), tellV (.part f k)] w fun e w' => e = .returned (.bool false) ∧ Below w.heap.size w w' := by
  obtain ⟨A, n, c⟩ := v
  simp only at hv
  have ta := fun v W => ta_page_no 85 v (by decide) W
  have tb := fun v W => ta_part v W
  have HR := Lib.hid hR
  have r0a := hR.cell 0
  have r0b : ∀ o, (w.alloc o).cell? ⟨R, 0, none⟩ = some (.slice A n c) := fun o => (World.cell?_alloc_lt w o ⟨R, 0, none⟩ HR.out.lt).trans r0a
  have r0c : ∀ o p, ((w.alloc o).alloc p).cell? ⟨R, 0, none⟩ = some (.slice A n c) := fun o p => (World.cell?_alloc_lt (w.alloc o) p ⟨R, 0, none⟩ (by have := HR.out.lt; simp; omega)).trans (r0b o)
  have r1a := hR.cell 1
  have r1b : ∀ o, (w.alloc o).cell? ⟨R, 1, none⟩ = some (.int .i64 last) := fun o => (World.cell?_alloc_lt w o ⟨R, 1, none⟩ HR.out.lt).trans r1a
  have r1c : ∀ o p, ((w.alloc o).alloc p).cell? ⟨R, 1, none⟩ = some (.int .i64 last) := fun o p => (World.cell?_alloc_lt (w.alloc o) p ⟨R, 1, none⟩ (by have := HR.out.lt; simp; omega)).trans (r1b o)
  have d1 : ((n : Int) == 0) = false := by simp; omega
  have d2 : decide ((k : Int) < (last : Int)) = true := by simpa using hk
  have d3 : (k : Int) < (last : Int) := by omega
  have d4 : k < last := hk
  clear hR
  unfold tellV
  go_enter Tryd.func25, Tryd.ntmps25
  go_wp2_with fail
  go_quiet (fail)
  go_wp2_with fail
  go_ret
  exact ⟨rfl, by repeat (first | exact Below.refl _ _ | refine bl ?_ _ | refine bd ?_ | refine bdn ?_ _ | refine bset ?_ (by simp) _)⟩
end Go.Proofs.YtloecpgfohhmlaaDoor
