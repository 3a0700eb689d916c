/-
  ranges.Put: a choice and a span more, joined; below the heap's size nothing turns.
-/
import Derived.Test.YtbbaaaomncegiaaGreatDoorRgd
import Derived.Deep.RegionHeld3
import Derived.Deep.RegionLaw
namespace Go.Proofs.YtbbaaaomncegiaaGreatDoor
open Go.RowKit Go.Proofs.Spn Go.Proofs.Rng

theorem step_append_spans {ops : Array Oper} {o : Oper} {a : Act} {w : World} {K : Act → World → Prop} {Q : Exit → Act → World → Prop} {E : Prop} (hg : o.guard = none) (s x : Operand)
    (ho : o.op = .call { callee := .builtin .append, args := #[s, x], argTypes := #[22, 22] }) (hty : o.type = 22)
    (base : Nat) (v : Value) (l0 : List Sp) (hs : a.eval s = v) (hown : w.ownsRow base 24 2 v l0.length (flatS l0)) (A : Option Addr) (n c : Nat) (ys : List Sp) (hx : a.eval x = .slice A n c) (hnl : n = ys.length) (hA : Spans w A ys)
    (hn : l0.length + ys.length ≤ 2000000) (hb : base ≤ w.heap.size)
    (h : ∀ v' w', w'.ownsRow base 24 2 v' (l0 ++ ys).length (flatS (l0 ++ ys)) → w.grownBy w' v.ownBlock → K (a.put o.dst v') w') : if Region.wanted o (yielded ops a.tmps) = true then Oper.wp Tryz.prog o a w K Q else E := by
  subst hnl
  obtain ⟨v', w', hr, h1, h2⟩ := run_append_spans w base v l0 hown A c ys hA hn hb
  rw [if_pos (by simp [Region.wanted, hg])]
  exact Lib.wp_append_run w s x _ _ ho v _ hs hx v' w' (by rw [hty]; exact hr) (h v' w' h1 h2)
theorem step_append_put {ops : Array Oper} {o : Oper} {a : Act} {w w1 : World} {K : Act → World → Prop} {Q : Exit → Act → World → Prop} {E : Prop} (hg : o.guard = none) (s x : Operand)
    (ho : o.op = .call { callee := .builtin .append, args := #[s, x], argTypes := #[22, 22] }) (hty : o.type = 22)
    (v : Value) (l0 : List Sp) (hs : a.eval s = v) (A : Option Addr) (n c : Nat) (ys : List Sp) (hx : a.eval x = .slice A n c) (hnl : n = ys.length) (hown : w.ownsRow w1.heap.size 24 2 v l0.length (flatS l0)) (hA : Spans w A ys)
    (hn : l0.length + ys.length ≤ 2000000) (hb : Below w1.heap.size w1 w)
    (h : ∀ v' w', w'.ownsRow w1.heap.size 24 2 v' (l0 ++ ys).length (flatS (l0 ++ ys)) → Below w1.heap.size w1 w' → K (a.put o.dst v') w') : if Region.wanted o (yielded ops a.tmps) = true then Oper.wp Tryz.prog o a w K Q else E :=
  step_append_spans hg s x ho hty w1.heap.size v l0 hs hown A n c ys hx hnl hA hn hb.size fun v' w' h1 h2 => h v' w' h1 (hb.grown h2 hb.size fun j hj => (hown.lt j hj).1)

set_option maxHeartbeats 16000000 in
set_option maxRecDepth 100000 in
theorem put_any (A : Option Addr) (c : Nat) (xs : List Sp) (s1 s2 : Int) (w : World) (hA : Spans w A xs) (hn : xs.length ≤ 900000) :
    Calls Tryz.prog 6 #[.slice A xs.length c, .agg #[.int .i64 s1, .int .i64 s2]] w (GivesS (putS xs (s1, s2)) w) := by
  have HA := Lib.hid hA
  clear hA
  have HB0 : Hid (Below w.heap.size w (w.alloc (.cells #[.int .i64 s1, .int .i64 s2] 24))) := bl (Below.refl _ _) _
  have CM := Lib.hid (may_any A c xs _ (HA.out.below HB0.out) (by omega))
  have E0 : Hid (mayB xs = false → putS xs (s1, s2) = []) := fun h => by unfold putS; rw [h]; rfl
  have E1 : Hid (mayB xs = true → putS xs (s1, s2) = joinS (xs ++ [meetS (s1, s2) (1, 1000000)])) := fun h => by unfold putS; rw [h]; rfl
  have cm := fun W => meet_any s1 s2 1 1000000 W
  generalize meetS (s1, s2) (1, 1000000) = m at cm E1
  obtain ⟨m1, m2⟩ := m
  obtain ⟨R, hR⟩ : ∃ R, putS xs (s1, s2) = R := ⟨_, rfl⟩
  rw [hR] at E0 E1 ⊢
  generalize mayB xs = B at CM E0 E1
  clear hR
  cases B with
  | false =>
    have E := Lib.hid (E0.out rfl)
    clear E0 E1 cm
    go_enter Tryz.func6, Tryz.ntmps6
    go_wp2_with (go_at_call 24; refine CM.out.mono ?_; rintro e w1 ⟨rfl, hb1⟩)
    go_ret
    rw [E.out]
    exact GivesS.none (bt HB0.out hb1)
  | true =>
    have E := Lib.hid (E1.out rfl)
    clear E0 E1
    go_enter Tryz.func6, Tryz.ntmps6
    go_wp2_with fail
    refine CM.out.mono ?_
    rintro e w1 ⟨rfl, hb1⟩
    have HB1 := Lib.hid (bt HB0.out hb1)
    have h0 : w1.cell? ⟨w.heap.size, 0, none⟩ = some (.int .i64 s1) := (hb1.cell (p := ⟨w.heap.size, 0, none⟩) (by simp)).trans (by simp)
    have h1 : w1.cell? ⟨w.heap.size, 1, none⟩ = some (.int .i64 s2) := (hb1.cell (p := ⟨w.heap.size, 1, none⟩) (by simp)).trans (by simp)
    have KEEP : Hid (∀ W, Below w1.heap.size w1 W → W.cell? ⟨w.heap.size, 0, none⟩ = some (.int .i64 s1) ∧ W.cell? ⟨w.heap.size, 1, none⟩ = some (.int .i64 s2) ∧ Hid (Below w1.heap.size w1 W)) := fun W h => ⟨cell_keep h0 h, cell_keep h1 h, h⟩
    have CC : Hid (∀ W, Below w1.heap.size w1 W → Calls Tryz.prog 26 #[.slice A xs.length c] W fun e w' => ∃ A' c', e = .returned (.slice A' xs.length c') ∧ w'.ownsRow w1.heap.size 24 2 (.slice A' xs.length c') xs.length (flatS xs) ∧ Below W.heap.size W w') := fun W h => by
      refine (clone_any A c xs W ((HA.out.below HB1.out).below h) (by omega)).mono ?_
      rintro e w' ⟨v, rfl, hr, hb⟩
      obtain ⟨A', c', rfl, _⟩ := Spans.of_own hr
      exact ⟨A', c', rfl, ownsRow_base hr h.size, hb⟩
    have CJ : Hid (∀ (W : World) (v : Value), W.ownsRow w1.heap.size 24 2 v (xs ++ [(m1, m2)]).length (flatS (xs ++ [(m1, m2)])) → Below w1.heap.size w1 W → ∃ A' n c', v = .slice A' n c' ∧ Calls Tryz.prog 25 #[.slice A' n c'] W (GivesS R w1)) := fun W v hr hb => by
      obtain ⟨A1, c1, rfl, hO, hl1, hl2⟩ := Own2.of_row hr
      unfold maxLen at hl2
      refine ⟨A1, _, c1, rfl, (joined_any w1.heap.size A1 c1 (xs ++ [(m1, m2)]) W hO hb.size hl1 hl2 (by simp; omega)).mono ?_⟩
      rintro e w' ⟨v, rfl, hr, hb2⟩
      rw [← E.out] at hr
      exact GivesS.of hr (hb.trans hb2) hb.size
    clear hb1 CM HB0 h0 h1
    go_wp2_with fail
    go_region_held3 (fun W => W.cell? ⟨w.heap.size, 0, none⟩ = some (.int .i64 s1) ∧ W.cell? ⟨w.heap.size, 1, none⟩ = some (.int .i64 s2) ∧ Hid (Below w1.heap.size w1 W))
      (exact KEEP.out _ (by repeat (first | exact Below.refl _ _ | refine bl ?_ _ | refine bd ?_ | refine bt ?_ (by assumption))))
      (first
        | (go_at_call 28; refine (whole_any _).mono ?_; rintro e wA ⟨rfl, hbA⟩)
        | (go_at_call 27; refine (cm _).mono ?_; rintro e wB ⟨rfl, hbB⟩)
        | (go_at_call 26; refine (CC.out _ (by repeat (first | exact Below.refl _ _ | refine bl ?_ _ | refine bd ?_ | refine bt ?_ (by assumption)))).mono ?_; rintro e wC ⟨A', c', rfl, hrC, hbC⟩)
        | (go_at_call 25; refine hcj.mono ?_; rintro e w6 ⟨A6, c6, rfl, hS6, hb6, hk6⟩)
        | (refine step_append_put (w1 := w1) (by rfl) _ _ (by rfl) (by rfl) _ xs (by rfl) _ 1 1 [(m1, m2)] (by rfl) rfl (by repeat (first | exact hrC | refine World.ownsRow.alloc ?_ _ | refine ob ?_ (by assumption))) (by first | exact spans_new _ [(m1, m2)] | exact (spans_new _ [(m1, m2)]).below (by assumption)) (by simp only [List.length_nil, List.length_cons]; omega) (by repeat (first | exact Below.refl _ _ | refine bl ?_ _ | refine bd ?_ | refine bt ?_ (by assumption))) ?_; intro v5 w5 own5 hb5; obtain ⟨A5, n5, c5, rfl, hcj⟩ := CJ.out w5 v5 own5 hb5; clear own5))
    all_goals
      have HS6 := Lib.hid hS6
      have HB6 := Lib.hid (bt HB1.out hb6)
      have HK6 := Lib.hid hk6
      clear hS6 hb6 hk6
      go_wp2_with fail
      go_ret
      exact ⟨A6, c6, rfl, HS6.out, HB6.out, fun a ha => Nat.le_trans HB1.out.size (HK6.out a ha)⟩
end Go.Proofs.YtbbaaaomncegiaaGreatDoor
