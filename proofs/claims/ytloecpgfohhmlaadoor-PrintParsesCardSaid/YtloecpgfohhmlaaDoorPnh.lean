/-
  (*print.reader).take of a part that may stand there: it stands behind those of its kind.
-/
import Derived.Test.YtloecpgfohhmlaaDoorPng
import Derived.IntWalk
namespace Go.Proofs.YtloecpgfohhmlaaDoor
open Go.RowKit Go.Proofs.Prn

theorem idx3 (b o : Nat) (k : Nat) (hk : k < 3) (w : World) : (Instr.index 52 (.agg #[.pointer (some ⟨b, o + 2, none⟩), .pointer (some ⟨b, o + 3, none⟩), .pointer (some ⟨b, o + 4, none⟩)]) (.int .i64 k)).run Tryd.prog w = .ok (.pointer (some ⟨b, o + 2 + k, none⟩)) w := by
  have h0 : (Instr.index 52 (.agg #[.pointer (some ⟨b, o + 2, none⟩), .pointer (some ⟨b, o + 3, none⟩), .pointer (some ⟨b, o + 4, none⟩)]) (.int .i64 0)).run Tryd.prog w = .ok (.pointer (some ⟨b, o + 2, none⟩)) w := by kernel_rfl
  have h1 : (Instr.index 52 (.agg #[.pointer (some ⟨b, o + 2, none⟩), .pointer (some ⟨b, o + 3, none⟩), .pointer (some ⟨b, o + 4, none⟩)]) (.int .i64 1)).run Tryd.prog w = .ok (.pointer (some ⟨b, o + 3, none⟩)) w := by kernel_rfl
  have h2 : (Instr.index 52 (.agg #[.pointer (some ⟨b, o + 2, none⟩), .pointer (some ⟨b, o + 3, none⟩), .pointer (some ⟨b, o + 4, none⟩)]) (.int .i64 2)).run Tryd.prog w = .ok (.pointer (some ⟨b, o + 4, none⟩)) w := by kernel_rfl
  obtain rfl | rfl | rfl : k = 0 ∨ k = 1 ∨ k = 2 := by omega
  · exact h0
  · exact h1
  · exact h2

set_option maxHeartbeats 8000000 in
set_option maxRecDepth 100000 in
theorem take_part_k (k : Nat) (hk : k < 3) (R base B : Nat) (gp cp m : Nat) (last : Nat) (s : Sl) (n : Nat) (fs : List Value) (f : Frag) (xs : List Value) (w : World) (hR : Blk w R 62 #[.slice (some ⟨gp, 0, none⟩) (m + 1) cp, .int .i64 last]) (hbR : base ≤ R)
    (hown : w.ownsRow base 37 5 (.slice (some ⟨gp, 0, none⟩) (m + 1) cp) (m + 1) xs) (hx : xs[m * 5 + 2 + k]? = some s.v) (hm : m ≤ 1000000) (hl : last ≤ k)
    (hs : w.ownsRow B 39 7 s.v n fs) (hbB : base ≤ B) (hB : B ≤ w.heap.size) (hn : n ≤ 1000000) :
    Calls Tryd.prog 25 #[.pointer (some ⟨R, 0, none⟩), tellV (.part f k)] w fun e w' => ∃ s' : Sl, e = .returned (.bool true) ∧
      Blk w' R 62 #[.slice (some ⟨gp, 0, none⟩) (m + 1) cp, .int .i64 k] ∧ w'.ownsRow base 37 5 (.slice (some ⟨gp, 0, none⟩) (m + 1) cp) (m + 1) (xs.set (m * 5 + 2 + k) s'.v) ∧
      w'.ownsRow B 39 7 s'.v (n + 1) (fs ++ encF f) ∧ KX s.v.ownBlock w w' ∧ Below base w w' := by
  obtain ⟨i0, hi, hz0, hz1, hz2⟩ := info_parts Tryd.infoFrag
  have ta := fun v W => ta_page_no 85 v (by decide) W
  have tb := fun v W => ta_part v W
  have HR := Lib.hid hR
  have HO := Lib.hid hown
  have HS := Lib.hid hs
  have HX := Lib.hid hx
  have r0a := hR.cell 0
  have r0b : ∀ o, (w.alloc o).cell? ⟨R, 0, none⟩ = some (.slice (some ⟨gp, 0, none⟩) (m + 1) cp) := fun o => (World.cell?_alloc_lt w o ⟨R, 0, none⟩ HR.out.lt).trans r0a
  have r0c : ∀ o p, ((w.alloc o).alloc p).cell? ⟨R, 0, none⟩ = some (.slice (some ⟨gp, 0, none⟩) (m + 1) cp) := fun o p => (World.cell?_alloc_lt (w.alloc o) p ⟨R, 0, none⟩ (by have := HR.out.lt; simp; omega)).trans (r0b o)
  have r1a := hR.cell 1
  have r1b : ∀ o, (w.alloc o).cell? ⟨R, 1, none⟩ = some (.int .i64 last) := fun o => (World.cell?_alloc_lt w o ⟨R, 1, none⟩ HR.out.lt).trans r1a
  have r1c : ∀ o p, ((w.alloc o).alloc p).cell? ⟨R, 1, none⟩ = some (.int .i64 last) := fun o p => (World.cell?_alloc_lt (w.alloc o) p ⟨R, 1, none⟩ (by have := HR.out.lt; simp; omega)).trans (r1b o)
  have d1 : ((m + 1 : Int) == 0) = false := by simp; omega
  have d2 : decide ((k : Int) < (last : Int)) = false := by simpa using hl
  have d3 : ¬ (k : Int) < (last : Int) := by omega
  have d4 : decide (k < last) = false := by simpa using hl
  have HRw := hR.lt
  clear hR hown hs hx
  unfold tellV
  go_enter Tryd.func25, Tryd.ntmps25
  go_wp2_with fail
  go_quiet (fail)
  refine gen_world (F := fun W => Blk W R 62 #[.slice (some ⟨gp, 0, none⟩) (m + 1) cp, .int .i64 last] ∧ Blk W (w.heap.size + 1) 85 #[.int .i64 f.node, .int .i64 f.atom, .int .i64 f.frm, .int .i64 f.x, .int .i64 f.y, .int .i64 f.w, .int .i64 f.h, .int .i64 k] ∧
      W.ownsRow base 37 5 (.slice (some ⟨gp, 0, none⟩) (m + 1) cp) (m + 1) xs ∧ W.ownsRow B 39 7 s.v n fs ∧ KF w W ∧ Below base w W) (G := Exit.then _ _ _ _) _
    ⟨((HR.out.alloc _).alloc _).drewN nq, by have := (Blk.new (w.alloc (.cells #[.int .i64 0, .int .i64 0, .slice none 0 0, .slice none 0 0, .slice none 0 0] 37)) 85 #[.int .i64 f.node, .int .i64 f.atom, .int .i64 f.frm, .int .i64 f.x, .int .i64 f.y, .int .i64 f.w, .int .i64 f.h, .int .i64 k]).drewN nq; simpa using this,
      ((HO.out.alloc _).alloc _), ((HS.out.alloc _).alloc _), (((KF.refl w).alloc _).alloc _).drewN nq,
      ⟨rfl, rfl, rfl, (((Below.refl base w).alloc (by omega) _).alloc (by simp; omega) _).size, (((Below.refl base w).alloc (by omega) _).alloc (by simp; omega) _).block⟩⟩ ?_
  rintro W ⟨hR1, hP1, hO1, hS1, hK1, hB1⟩
  have HR1 := Lib.hid hR1
  have HP1 := Lib.hid hP1
  have HO1 := Lib.hid hO1
  have HS1 := Lib.hid hS1
  have HK1 := Lib.hid hK1
  have HB1 := Lib.hid hB1
  have hW1 : w.heap.size + 1 < W.heap.size := hP1.lt
  have neP : R ≠ w.heap.size + 1 := by omega
  obtain ⟨q0, q1⟩ := hR1.facts2
  obtain ⟨y0, y1⟩ := hR1.free2
  have b7 := hP1.cell 7
  simp only [List.getElem?_toArray, List.getElem?_cons_zero, List.getElem?_cons_succ] at b7
  clear hR1 hP1 hO1 hS1 hK1 hB1 HR HO HS r0a r0b r0c r1a r1b r1c
  generalize w.heap.size + 1 = g at *
  go_wp2_with fail
  refine gen_world (F := fun W2 => Blk W2 R 62 #[.slice (some ⟨gp, 0, none⟩) (m + 1) cp, .int .i64 k] ∧ Blk W2 g 85 #[.int .i64 f.node, .int .i64 f.atom, .int .i64 f.frm, .int .i64 f.x, .int .i64 f.y, .int .i64 f.w, .int .i64 f.h, .int .i64 k] ∧
      W2.ownsRow base 37 5 (.slice (some ⟨gp, 0, none⟩) (m + 1) cp) (m + 1) xs ∧ W2.ownsRow B 39 7 s.v n fs ∧ KF w W2 ∧ Below base w W2) _
    ⟨HR1.out.set_ 1 _, HP1.out.far (p := ⟨R, 1, none⟩) (Ne.symm neP) _, own_set HO1.out HR1.out (by decide) _, own_set HS1.out HR1.out (by decide) _, HK1.out.setCell HR1.out (by decide) _, HB1.out.setCell (p := ⟨R, 1, none⟩) hbR _⟩ ?_
  rintro W2 ⟨hR2, hP2, hO2, hS2, hK2, hB2⟩
  have HR2 := Lib.hid hR2
  have HP2 := Lib.hid hP2
  have HO2 := Lib.hid hO2
  have HS2 := Lib.hid hS2
  have HK2 := Lib.hid hK2
  have HB2 := Lib.hid hB2
  obtain ⟨q0, q1⟩ := hR2.facts2
  have c0 := From.cell q0
  have b7 := hP2.cell 7
  simp only [List.getElem?_toArray, List.getElem?_cons_zero, List.getElem?_cons_succ] at b7
  have c7 := From.cell b7
  have hidx := fun W' => idx3 gp (m * 5) k hk W'
  have e1 : IntKind.i64.wrap ((m : Int) + 1 - 1) = m := by rw [show (m : Int) + 1 - 1 = m by omega]; exact IntWalk.i64_in _ (by omega)
  have e2 : (0 : Int) ≤ (m : Int) := by omega
  have e3 : (m : Int) < (m : Int) + 1 := by omega
  have e4 : m < m + 1 := by omega
  have cl := fun W' => lists_any gp (m * 5) W'
  clear hR2 hP2 hO2 hS2 hK2 hB2 q0 q1 b7 HR1 HP1 HO1 HS1 HK1 HB1 y0 y1
  refine wp_region_from (by kernel_rfl) (by kernel_rfl) ?_
  repeat (go_big_quiet_step (first | (go_at_call 19; exact calls_from (cl _))))
  refine wpQuiet_nil ?_
  intro _ hw'
  obtain ⟨p, rfl⟩ := hw'
  have hr3 := HR2.out.keep p.below
  have HP3 := Lib.hid (HP2.out.keep p.below)
  have HO3 := Lib.hid (ob HO2.out p.below)
  have HS3 := Lib.hid (ob HS2.out p.below)
  have HK3 := Lib.hid (HK2.out.trans (.below p.below))
  have HB3 := Lib.hid (HB2.out.trans (p.below.mono (by have := HB2.out.size; omega)))
  have HR3 := Lib.hid hr3
  clear hr3 HR2 HP2 HO2 HS2 HK2 HB2 c0 c7 cl hidx e1 e2 e3 e4
  generalize p.W = W3 at *
  clear p
  go_wp2_with fail
  obtain ⟨cs, hcs⟩ := own_blk HO3.out (g := gp) rfl
  have HC3 := Lib.hid hcs
  clear hcs
  have pc : W3.cell? ⟨gp, m * 5 + 2 + k, none⟩ = some s.v := (HO3.out.cellAt _ (by omega)).trans HX.out
  have pc2 : ∀ o, (W3.alloc o).cell? ⟨gp, m * 5 + 2 + k, none⟩ = some s.v := fun o => (World.cell?_alloc_lt W3 o ⟨gp, _, none⟩ HC3.out.lt).trans pc
  have c0 := HP3.out.cell 0
  have c1 := HP3.out.cell 1
  have c2 := HP3.out.cell 2
  have c3 := HP3.out.cell 3
  have c4 := HP3.out.cell 4
  have c5 := HP3.out.cell 5
  have c6 := HP3.out.cell 6
  simp only [List.getElem?_toArray, List.getElem?_cons_zero, List.getElem?_cons_succ] at c0 c1 c2 c3 c4 c5 c6
  have hc3 : n + 1 ≤ maxLen := by unfold maxLen; omega
  have hc4 : (n + 1) * 56 ≤ 140737488355328 := by omega
  have hbw3 : B ≤ W3.heap.size := by have := HK3.out.size; omega
  have hbw4 : base ≤ W3.heap.size := by omega
  go_region_law
    ((refine step_append_lies _ (by rfl) _ _ _ (by rfl) B 39 i0 (.agg #[.int .i64 0, .int .i64 0, .int .i64 0, .int .i64 0, .int .i64 0, .int .i64 0, .int .i64 0]) 7 56 Tryd.underlying35 hi hz0 hz1 hz2 rfl (by decide) s.v n fs (by rfl) ((HS3.out.alloc _).drew)
        ⟨W3.heap.size, 0, none⟩ 1 1 (encF f) (by rfl) (by rfl) (World.news_of_block (cs := #[.int .i64 f.node, .int .i64 f.atom, .int .i64 f.frm, .int .i64 f.x, .int .i64 f.y, .int .i64 f.w, .int .i64 f.h]) (t := 39) (fr := (0, 0)) (heap_alloc_new W3 _)) (encF_one _)
        (by omega) hc3 hc4 (by simp; omega) (W3.heap.size + 1) (by simp) ?_; intro gg cap w1 hown1 hgrow hat hlt
      have HC4 := Lib.hid ((HC3.out.alloc (.cells #[.int .i64 f.node, .int .i64 f.atom, .int .i64 f.frm, .int .i64 f.x, .int .i64 f.y, .int .i64 f.w, .int .i64 f.h] 39)).drew.grown hgrow (own_ne HS3.out HC3.out (by decide)))
      have HO4 := Lib.hid ((HO3.out.alloc (.cells #[.int .i64 f.node, .int .i64 f.atom, .int .i64 f.frm, .int .i64 f.x, .int .i64 f.y, .int .i64 f.w, .int .i64 f.h] 39)).drew.kept hgrow (.inr (own_ne HS3.out HC3.out (by decide))))
      have pc3 : w1.cell? ⟨gp, m * 5 + 2 + k, none⟩ = some s.v := (HO4.out.cellAt _ (by omega)).trans HX.out
      have pf3 := HC4.out.frozen (m * 5 + 2 + k)))
  all_goals
    have HR4 := Lib.hid ((HR3.out.alloc (.cells #[.int .i64 f.node, .int .i64 f.atom, .int .i64 f.frm, .int .i64 f.x, .int .i64 f.y, .int .i64 f.w, .int .i64 f.h] 39)).drew.grown hgrow (own_ne HS3.out HR3.out (by decide)))
    have HK4 := Lib.hid (((HK3.out.alloc (.cells #[.int .i64 f.node, .int .i64 f.atom, .int .i64 f.frm, .int .i64 f.x, .int .i64 f.y, .int .i64 f.w, .int .i64 f.h] 39)).drew).x hgrow)
    have HB4 := Lib.hid ((((HB3.out.alloc hbw4 (.cells #[.int .i64 f.node, .int .i64 f.atom, .int .i64 f.frm, .int .i64 f.x, .int .i64 f.y, .int .i64 f.w, .int .i64 f.h] 39)).drew).grown hgrow (by simp; omega) fun j hj => Nat.le_trans hbB (HS3.out.lt j hj).1))
    have HS4 := Lib.hid hown1
    have hgpb : base ≤ gp := (HO3.out.lt gp rfl).1
    clear hown1 hgrow hat pc pc2 pc3 pf3 c0 c1 c2 c3 c4 c5 c6
    go_wp2_with fail
    go_ret
    refine ⟨⟨some ⟨gg, 0, none⟩, n + 1, cap⟩, rfl, HR4.out.far (p := ⟨gp, _, none⟩) (fun e => by
      have h1 := HR4.out
      have h2 := HC4.out
      simp only at e
      rw [e] at h1
      unfold Blk at h1 h2
      rw [h1] at h2
      injection h2 with h2
      injection h2 with _ h3
      exact absurd h3 (by decide)) _, (HO4.out.stored _ _).1, own_set HS4.out HC4.out (by decide) _, HK4.out.kf ((KF.refl _).setCell HC4.out (by decide) _), HB4.out.setCell (p := ⟨gp, _, none⟩) hgpb _⟩
end Go.Proofs.YtloecpgfohhmlaaDoor
