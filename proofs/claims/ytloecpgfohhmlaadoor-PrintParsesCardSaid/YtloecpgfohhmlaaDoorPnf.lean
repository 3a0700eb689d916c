/-
  (*print.reader).take: what a line tells is taken, if it may stand there.
-/
import Derived.Test.YtloecpgfohhmlaaDoorPmm
import Derived.Test.YtloecpgfohhmlaaDoorPne
import Derived.Deep.RegionHeld3
import Derived.Deep.RegionLaw
import Derived.Test.YtloecpgfohhmlaaDoorQtl
namespace Go.Proofs.YtloecpgfohhmlaaDoor
open Go.RowKit Go.Proofs.Prn

theorem ta_page (v : Value) (w : World) : (Instr.typeAssert (.iface 37 v) 66 37 true).run Tryd.prog w = .ok (.tuple #[v, .bool true]) w := by kernel_rfl
theorem ta_page_no (t : TypeId) (v : Value) (h : t ≠ 37) (w : World) : (Instr.typeAssert (.iface t v) 66 37 true).run Tryd.prog w = .ok (.tuple #[.agg #[.int .i64 0, .int .i64 0, .slice none 0 0, .slice none 0 0, .slice none 0 0], .bool false]) w := by
  simp [Instr.typeAssert, run_underlying Tryd.underlying37, h]
theorem ta_part (v : Value) (w : World) : (Instr.typeAssert (.iface 85 v) 66 85 true).run Tryd.prog w = .ok (.tuple #[v, .bool true]) w := by kernel_rfl
theorem ta_part_no (t : TypeId) (v : Value) (h : t ≠ 85) (w : World) : (Instr.typeAssert (.iface t v) 66 85 true).run Tryd.prog w = .ok (.tuple #[.agg #[.int .i64 0, .int .i64 0, .int .i64 0, .int .i64 0, .int .i64 0, .int .i64 0, .int .i64 0, .int .i64 0], .bool false]) w := by
  simp [Instr.typeAssert, run_underlying Tryd.underlying85, h]

set_option maxHeartbeats 4000000 in
set_option maxRecDepth 100000 in
theorem take_page (R : Nat) (base : Nat) (v : Sl) (last : Int) (a b : Int) (rs : List Raw) (w : World) (hR : Blk w R 62 #[v.v, .int .i64 last]) (hbR : base ≤ R)
    (hown : w.ownsRow base 37 5 v.v rs.length (flatL encR rs)) (hn : rs.length ≤ 1000000) :
    Calls Tryd.prog 25 #[.pointer (some ⟨R, 0, none⟩), tellV (.page a b)] w fun e w' => ∃ v' : Sl, e = .returned (.bool true) ∧ Blk w' R 62 #[v'.v, .int .i64 0] ∧
      w'.ownsRow base 37 5 v'.v (rs.length + 1) (flatL encR (rs ++ [⟨a, b, Sl.nil, Sl.nil, Sl.nil⟩])) ∧ KF w w' ∧ Below base w w' := by
  obtain ⟨i0, hi, hz0, hz1, hz2⟩ := info_parts Tryd.infoPage
  have hRw := hR.lt
  have ta := fun v W => ta_page v W
  unfold tellV
  go_enter Tryd.func25, Tryd.ntmps25
  go_wp2_with fail
  refine gen_world (F := fun W => Blk W w.heap.size 37 #[.int .i64 a, .int .i64 b, .slice none 0 0, .slice none 0 0, .slice none 0 0] ∧ Blk W R 62 #[v.v, .int .i64 last] ∧ W.ownsRow base 37 5 v.v rs.length (flatL encR rs) ∧ KF w W ∧ Below base w W) _
    ⟨Blk.new w _ _, hR.alloc _, hown.alloc _, (KF.refl _).alloc _, (Below.refl _ _).alloc (by omega) _⟩ ?_
  rintro W ⟨hP, hR1, hown1, hK1, hB1⟩
  have HK := Lib.hid hK1
  have HB := Lib.hid hB1
  have HO := Lib.hid hown1
  have HP := Lib.hid hP
  have HR := Lib.hid hR1
  have hz : w.heap.size < W.heap.size := hP.lt
  obtain ⟨p0, p1, p2, p3, p4⟩ := hP.facts5
  obtain ⟨r0, r1⟩ := hR1.facts2
  obtain ⟨f0, f1⟩ := hR1.free2
  clear hP hR1 hown1 hK1 hB1 hR hown
  generalize w.heap.size = g at *
  have hc3 : rs.length + 1 ≤ maxLen := by unfold maxLen; omega
  have hc4 : (rs.length + 1) * 88 ≤ 140737488355328 := by omega
  have nz : ∀ o, (W.alloc o).cell? ⟨R, 0, none⟩ = some v.v := fun o => (World.cell?_alloc_lt W o ⟨R, 0, none⟩ HR.out.lt).trans r0
  go_region_law
    ((refine step_append_lies _ (by rfl) _ _ _ (by rfl) base 37 i0 (.agg #[.int .i64 0, .int .i64 0, .slice none 0 0, .slice none 0 0, .slice none 0 0]) 5 88 Tryd.underlying22 hi hz0 hz1 hz2 rfl (by decide) v.v rs.length (flatL encR rs) (by rfl) ((HO.out.alloc _).drew)
        ⟨W.heap.size, 0, none⟩ 1 1 (encR ⟨a, b, Sl.nil, Sl.nil, Sl.nil⟩) (by rfl) (by rfl) (World.news_of_block (cs := #[.int .i64 a, .int .i64 b, .slice none 0 0, .slice none 0 0, .slice none 0 0]) (t := 37) (fr := (0, 0)) (heap_alloc_new W _)) (encR_one _)
        (by omega) hc3 hc4 (by simp; omega) (W.heap.size + 1) (by simp) ?_; intro gg cap w1 hown1 hgrow hat hlt
      have HR1 := Lib.hid ((HR.out.alloc (.cells #[.int .i64 a, .int .i64 b, .slice none 0 0, .slice none 0 0, .slice none 0 0] 37)).drew.grown hgrow (own_ne HO.out HR.out (by decide)))
      have q0 := HR1.out.cell 0
      have q1 := HR1.out.cell 1
      have q2 := HR1.out.frozen 0
      have q3 := HR1.out.frozen 1
      simp only [List.getElem?_toArray, List.getElem?_cons_zero, List.getElem?_cons_succ] at q0 q1))
  all_goals
    have HK1 := Lib.hid (((HK.out.alloc (.cells #[.int .i64 a, .int .i64 b, .slice none 0 0, .slice none 0 0, .slice none 0 0] 37)).drew).grown hgrow fun k hk => by
      obtain ⟨cs, hcs⟩ := own_blk HO.out hk
      exact ⟨_, cs, hcs.alloc _, by decide⟩)
    have HB1 := Lib.hid ((((HB.out.alloc (by have := HB.out.size; omega) (.cells #[.int .i64 a, .int .i64 b, .slice none 0 0, .slice none 0 0, .slice none 0 0] 37)).drew).grown hgrow (by have := HB.out.size; simp; omega) fun k hk => (HO.out.lt k hk).1))
    have HO1 := Lib.hid hown1
    clear hown1 hgrow hat q0 q1 q2 q3
    go_wp2_with fail
    go_ret
    refine ⟨⟨some ⟨gg, 0, none⟩, rs.length + 1, cap⟩, rfl, HR1.out.set2 _ _, ?_, ?_, ?_⟩
    · rw [flatL_append, flatL_one_]
      exact own_set (own_set HO1.out HR1.out (by decide) _) (HR1.out.set_ 0 _) (by decide) _
    · exact (HK1.out.setCell HR1.out (by decide) _).setCell (HR1.out.set_ 0 _) (by decide) _
    · exact (HB1.out.setCell (p := ⟨R, 0, none⟩) hbR _).setCell (p := ⟨R, 1, none⟩) hbR _
end Go.Proofs.YtloecpgfohhmlaaDoor
