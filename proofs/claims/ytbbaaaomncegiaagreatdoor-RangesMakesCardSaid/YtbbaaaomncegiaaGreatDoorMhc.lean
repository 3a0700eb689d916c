/-
  gatefoldlaw32.RangesMakes returns true at whatever spans, span, number; below the heap's size nothing turns.
-/
import Derived.Test.YtbbaaaomncegiaaGreatDoorMhb
import Derived.Test.YtbbaaaomncegiaaGreatDoorRgp
import Derived.Test.YtbbaaaomncegiaaGreatDoorRgf
import Derived.Deep.RegionHeld3
import Derived.Deep.CutRange
namespace Go.Proofs.YtbbaaaomncegiaaGreatDoor
open Go.RowKit Go.Proofs.Spn Go.Proofs.Rng Go.Proofs.Prn

structure MCtx (w W : World) (m s1 s2 : Int) : Prop where
  ctx : Ctx w W m
  c0 : W.cell? ⟨w.heap.size, 0, none⟩ = some (.int .i64 s1)
  c1 : W.cell? ⟨w.heap.size, 1, none⟩ = some (.int .i64 s2)
theorem MCtx.on {w W W' : World} {m s1 s2 : Int} (h : MCtx w W m s1 s2) (hb : Below W.heap.size W W') : MCtx w W' m s1 s2 :=
  ⟨h.ctx.on hb, cell_keep h.c0 hb, cell_keep h.c1 hb⟩
theorem MCtx.start {w : World} {m s1 s2 : Int} (hT : Tab w) (hm : w.cell? ⟨0, 0, none⟩ = some (.int .i64 m)) : MCtx w (w.alloc (.cells #[.int .i64 s1, .int .i64 s2] 24)) m s1 s2 :=
  ⟨(Ctx.start hT hm).on (bl (Below.refl _ _) _), by simp, by simp⟩

/-- 'clear' on a row of spans that is owned: its block alone turns. -/
theorem clear_own (w : World) (base : Nat) (A : Option Addr) (c : Nat) (xs : List Sp) (h : w.ownsRow base 24 2 (.slice A xs.length c) xs.length (flatS xs)) :
    ∃ w', (∀ ty, (Builtin.clear_ #[22] ty #[.slice A xs.length c]).run Tryz.prog w = .ok (.tuple #[]) w') ∧ w.grownBy w' (Value.slice A xs.length c).ownBlock := by
  rcases h.2 with ⟨hv, h0⟩ | ⟨g, cap, cur, hv, hg, hh, hn, hm, hs, hx⟩
  · injection hv with e1 e2 e3
    subst e1 e3
    rw [h0]
    exact ⟨w, fun ty => by simp [Builtin.clear_, run_underlying Tryz.underlying22], World.grownBy.refl _ _⟩
  · injection hv with e1 e2 e3
    subst e1 e3
    rcases Nat.eq_zero_or_pos xs.length with e | e
    · rw [e]
      exact ⟨w, fun ty => by simp [Builtin.clear_, run_underlying Tryz.underlying22], World.grownBy.refl _ _⟩
    · refine ⟨_, fun ty => run_clear_spans w ty g 0 xs.length c e (fun j hj => ?_) (fun j _ => ?_), grownBy_setCells _ _ _ _⟩
      · rw [Nat.zero_add, h.cellAt j hj, List.getElem?_eq_getElem (by rw [flatS_length]; exact hj)]
        rfl
      · rw [Nat.zero_add, h.frozenAt j]
/-- 'append([]api.Span{}, x...)': a copy. -/
theorem wpList_copy {ops : Array Oper} {rest : List Oper} {o : Oper} {a : Act} {W : World} {Q : Exit → Act → World → Prop} (hgd : Region.wanted o (yielded ops a.tmps) = true) (s x : Operand)
    (ho : o.op = .call { callee := .builtin .append, args := #[s, x], argTypes := #[22, 22] }) (hty : o.type = 22)
    (g : Nat) (hs : a.eval s = .slice (some ⟨g, 0, none⟩) 0 0) (hg : g = W.heap.size) (A : Option Addr) (n c : Nat) (xs : List Sp) (hx : a.eval x = .slice A n c) (hnl : n = xs.length) (hA : Spans W A xs) (hn : xs.length ≤ 1000000)
    (h : ∀ A' c' w', w'.ownsRow W.heap.size 24 2 (.slice A' xs.length c') xs.length (flatS xs) → Below W.heap.size W w' → wpList Tryz.prog ops Q rest (a.put o.dst (.slice A' xs.length c')) w') : wpList Tryz.prog ops Q (o :: rest) a (W.alloc (.cells #[] 24)) := by
  subst hg
  refine wpList_append_spans hgd s x ho hty W.heap.size _ [] hs (World.ownsRow_made W #[] 0 (Nat.le_refl _) (Nat.zero_le _) (by simp)) A n c xs hx hnl (hA.below (bl (Below.refl _ _) _)) (by simp; omega) (bl (Below.refl _ _) _).size ?_
  intro v' w' own grow
  rw [List.nil_append] at own
  obtain ⟨A', c', rfl, _⟩ := Spans.of_own own
  exact h A' c' w' own ((bl (Below.refl _ _) _).grown grow (bl (Below.refl _ _) _).size (fun k hk => by simp [Value.ownBlock] at hk; omega))
/-- What a maker of spans gives, in memory from a base on. -/
def GivesT (l : List Sp) (base : Nat) (W : World) (e : Ending) (w' : World) : Prop := ∃ A c, e = .returned (.slice A l.length c) ∧ Spans w' A l ∧ Below W.heap.size W w' ∧ ∀ a, A = some a → base ≤ a.block
theorem GivesS.t {l : List Sp} {base : Nat} {W w' : World} {e : Ending} (h : GivesS l W e w') (hb : base ≤ W.heap.size) : GivesT l base W e w' := by
  obtain ⟨A, c, he, hS, hB, hk⟩ := h
  exact ⟨A, c, he, hS, hB, fun a ha => Nat.le_trans hb (hk a ha)⟩
theorem MadeS.t {l : List Sp} {w w' : World} {e : Ending} (h : MadeS l w e w') : ∃ A c, e = .returned (.slice A l.length c) ∧ Spans w' A l ∧ Below w.heap.size w w' := by
  obtain ⟨v, he, hr, hb⟩ := h
  obtain ⟨A, c, rfl, hS, _⟩ := Spans.of_own hr
  exact ⟨A, c, he, hS, hb⟩

set_option maxHeartbeats 8000000 in
set_option maxRecDepth 100000 in
theorem makes_long (A B : Option Addr) (c d : Nat) (xs ys : List Sp) (s1 s2 no : Int) (m : Int) (w : World) (hT : Tab w) (hm : w.cell? ⟨0, 0, none⟩ = some (.int .i64 m)) (h : 60 < xs.length ∨ 60 < ys.length) :
    Calls Tryz.prog 3 #[.slice A xs.length c, .slice B ys.length d, .agg #[.int .i64 s1, .int .i64 s2], .int .i64 no] w fun e w' => e = .returned (.bool true) ∧ Below w.heap.size w w' := by
  have HN0 := Lib.hid (MCtx.start (s1 := s1) (s2 := s2) hT hm)
  have HC := Lib.hid (awake_any m _ HN0.out.ctx.tab HN0.out.ctx.len)
  clear hT hm
  by_cases h1 : (60 : Int) < (xs.length : Int)
  · have g1 : decide ((60 : Int) < (xs.length : Int)) = true := decide_eq_true h1
    clear h
    go_enter Tryz.func3, Tryz.ntmps3
    go_wp2_with fail
    refine HC.out.mono ?_
    rintro e w1 ⟨rfl, hb1⟩
    go_wp2_with fail
    go_ret
    exact ⟨rfl, bt HN0.out.ctx.below hb1⟩
  · have g1 : decide ((60 : Int) < (xs.length : Int)) = false := decide_eq_false h1
    have h2 : (60 : Int) < (ys.length : Int) := by omega
    have g2 : decide ((60 : Int) < (ys.length : Int)) = true := decide_eq_true h2
    clear h
    go_enter Tryz.func3, Tryz.ntmps3
    go_wp2_with fail
    refine HC.out.mono ?_
    rintro e w1 ⟨rfl, hb1⟩
    go_wp2_with fail
    go_ret
    exact ⟨rfl, bt HN0.out.ctx.below hb1⟩

set_option maxHeartbeats 32000000 in
set_option maxRecDepth 100000 in
theorem makes_main (A B : Option Addr) (c d : Nat) (xs ys : List Sp) (s1 s2 no : Int) (m : Int) (w : World) (hA : Spans w A xs) (hB : Spans w B ys) (hT : Tab w) (hm : w.cell? ⟨0, 0, none⟩ = some (.int .i64 m)) (h1 : xs.length ≤ 60) (h2 : ys.length ≤ 60) :
    Calls Tryz.prog 3 #[.slice A xs.length c, .slice B ys.length d, .agg #[.int .i64 s1, .int .i64 s2], .int .i64 no] w fun e w' => e = .returned (.bool true) ∧ Below w.heap.size w w' := by
  have HN0 := Lib.hid (MCtx.start (s1 := s1) (s2 := s2) hT hm)
  have HA := Lib.hid hA
  have HB0 := Lib.hid hB
  have g1 : ¬ (60 : Int) < (xs.length : Int) := by omega
  have g2 : ¬ (60 : Int) < (ys.length : Int) := by omega
  have d1 : decide ((60 : Int) < (xs.length : Int)) = false := decide_eq_false g1
  have d2 : decide ((60 : Int) < (ys.length : Int)) = false := decide_eq_false g2
  have hmul := Nat.mul_le_mul h1 h2
  clear hA hB hT hm
  -- the plain law
  have lP : (putS xs (s1, s2)).length ≤ 61 := by have := put_length xs (s1, s2); omega
  have lT : (takeS xs (s1, s2)).length ≤ 120 := by have := take_length xs (s1, s2); omega
  have lB : (bothS xs ys).length ≤ 3600 := by have := both_length xs ys; omega
  have lO : (othersS xs).length ≤ 61 := by have := others_length xs; omega
  have nP : Hid (mayB xs = false → putS xs (s1, s2) = []) := fun h => by unfold putS; rw [h]; rfl
  have nT : Hid (mayB xs = false → takeS xs (s1, s2) = []) := fun h => by unfold takeS; rw [h]; rfl
  have nB : Hid (mayB xs = false → bothS xs ys = []) := fun h => by unfold bothS; rw [h]; rfl
  have nB2 : Hid (mayB ys = false → bothS xs ys = []) := fun h => by unfold bothS; rw [h, Bool.and_false]; rfl
  have nO : Hid (mayB xs = false → othersS xs = []) := fun h => by unfold othersS; rw [h]; rfl
  have nH : Hid (mayB xs = false → hasL xs no = false) := fun h => by unfold hasL; rw [h]; rfl
  have yP : Hid (mayB xs = true → IsMade 1 xs [(s1, s2)] (putS xs (s1, s2))) := fun h => put_made ((mayB_iff _).1 h) _
  have yT : Hid (mayB xs = true → IsMade 2 xs [(s1, s2)] (takeS xs (s1, s2))) := fun h => take_made ((mayB_iff _).1 h) _
  have yB : Hid (mayB xs = true → mayB ys = true → IsMade 3 xs ys (bothS xs ys)) := fun h k => both_made ((mayB_iff _).1 h) ((mayB_iff _).1 k)
  have yO : Hid (mayB xs = true → IsMade 4 xs [] (othersS xs)) := fun h => others_made ((mayB_iff _).1 h)
  have yH : Hid (mayB xs = true → hasL xs no = hasA xs no) := fun h => by unfold hasL hasA; rw [h, Bool.true_and]
  have CP := Lib.hid fun (A9 : Option Addr) (c9 : Nat) (base : Nat) (W : World) (h : Spans W A9 xs) (hb : base ≤ W.heap.size) => (put_any A9 c9 xs s1 s2 W h (by omega)).mono fun e w' hg => hg.t hb
  have CT := Lib.hid fun (A9 : Option Addr) (c9 : Nat) (base : Nat) (W : World) (h : Spans W A9 xs) (hb : base ≤ W.heap.size) => (take_any A9 c9 xs s1 s2 W h (by omega)).mono fun e w' hg => hg.t hb
  have CB := Lib.hid fun (A9 : Option Addr) (c9 : Nat) (A10 : Option Addr) (c10 : Nat) (base : Nat) (W : World) (h : Spans W A9 xs) (h' : Spans W A10 ys) (hb : base ≤ W.heap.size) => (both_any A9 A10 c9 c10 xs ys W h h' (by omega) (by omega)).mono fun e w' hg => hg.t hb
  have CO := Lib.hid fun (A9 : Option Addr) (c9 : Nat) (base : Nat) (W : World) (h : Spans W A9 xs) (hb : base ≤ W.heap.size) => (others_any A9 c9 xs W h (by omega)).mono fun e w' hg => hg.t hb
  have CH := Lib.hid fun (A9 : Option Addr) (c9 : Nat) (W : World) (h : Spans W A9 xs) => rhas_any A9 c9 xs no W h (by omega)
  generalize putS xs (s1, s2) = P at *
  generalize takeS xs (s1, s2) = T at *
  generalize bothS xs ys = Bo at *
  generalize othersS xs = Ot at *
  generalize hasL xs no = bH at *
  clear hmul
  go_enter Tryz.func3, Tryz.ntmps3
  go_wp2_with (at_builtin; refine wpList_copy (by rfl) _ _ (by rfl) (by rfl) _ (by rfl) (by simp) A _ c xs (by rfl) rfl (HA.out.below HN0.out.ctx.below) (by omega) ?_)
  intro A9 c9 w1 own1 hb1
  have HN1 := Lib.hid (HN0.out.on (W' := w1) (by simpa using hb1))
  have HX1 := Lib.hid own1
  clear hb1 own1 HN0
  go_wp2_with (at_builtin; refine wpList_copy (by rfl) _ _ (by rfl) (by rfl) _ (by rfl) (by rfl) B _ d ys (by rfl) rfl (HB0.out.below HN1.out.ctx.below) (by omega) ?_)
  intro A10 c10 w2 own2 hb2
  have HW2 := Lib.hid hb2
  have HN2 := Lib.hid (HN1.out.on hb2)
  have HS9 : Hid (Spans w1 A9 xs) := by obtain ⟨A', c', e, hS, _⟩ := Spans.of_own HX1.out; injection e with e1 e2 e3; subst e1 e3; exact hS
  have HY2 := Lib.hid own2
  have HS10 : Hid (Spans w2 A10 ys) := by obtain ⟨A', c', e, hS, _⟩ := Spans.of_own own2; injection e with e1 e2 e3; subst e1 e3; exact hS
  have HS9' := Lib.hid (HS9.out.below hb2)
  clear hb2 own2 HX1
  go_upto_region 4 with fail
  go_cut [11, 12, 13, 14] from 31 to 41 (fun q11 q12 q13 q14 wx => ∃ A11 c11 A12 c12 A13 c13 A14 c14, q11 = .slice A11 P.length c11 ∧ q12 = .slice A12 T.length c12 ∧ q13 = .slice A13 Bo.length c13 ∧ q14 = .slice A14 Ot.length c14 ∧ Hid (Spans wx A11 P ∧ ∀ a, A11 = some a → w2.heap.size ≤ a.block) ∧ Hid (Spans wx A12 T ∧ ∀ a, A12 = some a → w2.heap.size ≤ a.block) ∧ Hid (Spans wx A13 Bo ∧ ∀ a, A13 = some a → w2.heap.size ≤ a.block) ∧ Hid (Spans wx A14 Ot ∧ ∀ a, A14 = some a → w2.heap.size ≤ a.block) ∧ Hid (Below w2.heap.size w2 wx))
  case first =>
    have KEEP : Hid (∀ W, Below w2.heap.size w2 W → W.cell? ⟨w.heap.size, 0, none⟩ = some (.int .i64 s1) ∧ W.cell? ⟨w.heap.size, 1, none⟩ = some (.int .i64 s2) ∧ Hid (Below w2.heap.size w2 W)) := fun W h => ⟨cell_keep HN2.out.c0 h, cell_keep HN2.out.c1 h, h⟩
    have CP := Lib.hid fun (W : World) (h : Below w2.heap.size w2 W) => CP.out A9 c9 w2.heap.size W (HS9'.out.below h) h.size
    have CT := Lib.hid fun (W : World) (h : Below w2.heap.size w2 W) => CT.out A9 c9 w2.heap.size W (HS9'.out.below h) h.size
    have CB := Lib.hid fun (W : World) (h : Below w2.heap.size w2 W) => CB.out A9 c9 A10 c10 w2.heap.size W (HS9'.out.below h) (HS10.out.below h) h.size
    have CO := Lib.hid fun (W : World) (h : Below w2.heap.size w2 W) => CO.out A9 c9 w2.heap.size W (HS9'.out.below h) h.size
    go_region_held3 (fun W => W.cell? ⟨w.heap.size, 0, none⟩ = some (.int .i64 s1) ∧ W.cell? ⟨w.heap.size, 1, none⟩ = some (.int .i64 s2) ∧ Hid (Below w2.heap.size w2 W))
      (exact KEEP.out _ (by repeat (first | exact Below.refl _ _ | refine bd ?_ | refine bt ?_ (by assumption))))
      ((first
        | (go_at_call 6; refine (CP.out _ (by repeat (first | exact Below.refl _ _ | refine bd ?_ | refine bt ?_ (by assumption)))).mono ?_; rintro e wA ⟨A11, c11, rfl, hS11, hbA, hk11⟩)
        | (go_at_call 7; refine (CT.out _ (by repeat (first | exact Below.refl _ _ | refine bd ?_ | refine bt ?_ (by assumption)))).mono ?_; rintro e wB ⟨A12, c12, rfl, hS12, hbB, hk12⟩)
        | (go_at_call 8; refine (CB.out _ (by repeat (first | exact Below.refl _ _ | refine bd ?_ | refine bt ?_ (by assumption)))).mono ?_; rintro e wC ⟨A13, c13, rfl, hS13, hbC, hk13⟩)
        | (go_at_call 9; refine (CO.out _ (by repeat (first | exact Below.refl _ _ | refine bd ?_ | refine bt ?_ (by assumption)))).mono ?_; rintro e wD ⟨A14, c14, rfl, hS14, hbD, hk14⟩)))
    all_goals
      go_wp2_with fail
      go_meet
      exact ⟨A11, c11, A12, c12, A13, c13, A14, c14, rfl, rfl, rfl, rfl, ⟨by repeat (first | assumption | refine Spans.below ?_ (by assumption)), hk11⟩, ⟨by repeat (first | assumption | refine Spans.below ?_ (by assumption)), hk12⟩, ⟨by repeat (first | assumption | refine Spans.below ?_ (by assumption)), hk13⟩, ⟨by repeat (first | assumption | refine Spans.below ?_ (by assumption)), hk14⟩, by repeat (first | exact Below.refl _ _ | refine bd ?_ | refine bt ?_ (by assumption))⟩
  case rest =>
    obtain ⟨A11, c11, A12, c12, A13, c13, A14, c14, rfl, rfl, rfl, rfl, HS11, HS12, HS13, HS14, HBX⟩ := hcut
    have HW3 := Lib.hid (bt HW2.out HBX.out)
    have HY3 := Lib.hid (ob HY2.out HBX.out)
    clear CP CT CB CO
    go_wp2_with fail
    refine (CH.out A9 c9 _ (HS9'.out.below HBX.out)).mono ?_
    rintro e w4 ⟨rfl, hb4⟩
    have HW4 := Lib.hid (bt HW3.out hb4)
    have HY4 := Lib.hid (ob HY3.out hb4)
    obtain ⟨w5, hcl, hg5⟩ := clear_own w4 w1.heap.size A10 c10 ys HY4.out
    have HW5 : Hid (Below w1.heap.size w1 w5) := HW4.out.grown hg5 HW4.out.size fun k hk => (HY4.out.lt k hk).1
    have hlow : ∀ (R : Option Addr), (∀ a, R = some a → w2.heap.size ≤ a.block) → ∀ a, R = some a → some a.block ≠ (Value.slice A10 ys.length c10).ownBlock := fun R hR a ha e => by
      have h3 := hR a ha
      have h4 := (HY2.out.lt a.block e.symm).2
      omega
    have HT11 : Hid (Spans w5 A11 P) := (HS11.out.1.below hb4).grown hg5 (hlow A11 HS11.out.2)
    have HT12 : Hid (Spans w5 A12 T) := (HS12.out.1.below hb4).grown hg5 (hlow A12 HS12.out.2)
    have HT13 : Hid (Spans w5 A13 Bo) := (HS13.out.1.below hb4).grown hg5 (hlow A13 HS13.out.2)
    have HT14 : Hid (Spans w5 A14 Ot) := (HS14.out.1.below hb4).grown hg5 (hlow A14 HS14.out.2)
    have HT9 : Hid (Spans w5 A9 xs) := HS9.out.below HW5.out
    have HN5 := Lib.hid (HN1.out.on HW5.out)
    clear hlow hg5 hb4 HW2 HW3 HW4 HW5 HY2 HY3 HY4 HS9 HS9' HS10 HS11 HS12 HS13 HS14 HBX HN1 HN2
    go_wp2_with fail
    clear hcl
    refine (same_any A9 A c9 c xs xs w5 HT9.out (HA.out.below HN5.out.ctx.below) (by omega)).mono ?_
    rw [same_self]
    rintro e w6 ⟨rfl, hb6⟩
    have HN6 := Lib.hid (HN5.out.on hb6)
    have HZ6 := Lib.hid hb6
    clear hb6 HT9 HN5
    go_wp2_with fail
    refine (refmay_any A c xs w6 (HA.out.below HN6.out.ctx.below) (by omega)).mono ?_
    cases hM : mayB xs with
    | false =>
      rintro e w7 ⟨rfl, hb7⟩
      have HN7 := Lib.hid (HN6.out.on hb7)
      obtain rfl := nP.out hM
      obtain rfl := nT.out hM
      obtain rfl := nB.out hM
      obtain rfl := nO.out hM
      obtain rfl := nH.out hM
      simp only [List.length_nil]
      clear hb7 hM HN6 nP nT nB nB2 nO nH yP yT yB yO yH HT11 HT12 HT13 HT14
      go_wp2_with fail
      refine (awake_any m _ HN7.out.ctx.tab HN7.out.ctx.len).mono ?_
      rintro e w8 ⟨rfl, hb8⟩
      go_wp2_with fail
      go_ret
      exact ⟨rfl, bt HN7.out.ctx.below hb8⟩
    | true =>
      rintro e w7 ⟨rfl, hb7⟩
      have HN7 := Lib.hid (HN6.out.on hb7)
      have HZ7 := Lib.hid (bt HZ6.out hb7)
      have YP := Lib.hid (yP.out hM)
      have YT := Lib.hid (yT.out hM)
      have YB : Hid (mayB ys = true → IsMade 3 xs ys Bo) := fun k => yB.out hM k
      have YO := Lib.hid (yO.out hM)
      obtain rfl := yH.out hM
      clear hb7 hM HN6 HZ6 nP nT nB nO nH yP yT yB yO yH
      go_wp2_with fail
      refine (refhas_any A c xs no w7 (HA.out.below HN7.out.ctx.below) (by omega)).mono ?_
      cases hasA xs no
      all_goals
        rintro e w8 ⟨rfl, hb8⟩
        have HN8 := Lib.hid (HN7.out.on hb8)
        have HZ8 := Lib.hid (bt HZ7.out hb8)
        have k0 := HN8.out.c0
        have k1 := HN8.out.c1
        clear hb8 HN7 HZ7
        go_wp2_with fail
        clear k0 k1
        refine (made_any 1 A (some ⟨w8.heap.size, 0, none⟩) c 1 xs [(s1, s2)] P _ (HA.out.below (bl HN8.out.ctx.below _)) (spans_new w8 [(s1, s2)]) (by omega) (by simp) YP.out).mono ?_
        rintro e w9 hg9
        obtain ⟨AA, cA, rfl, hSA, hb9⟩ := hg9.t
        have HN9 := Lib.hid ((HN8.out.on (bl (Below.refl _ _) _)).on hb9)
        have HZ9 := Lib.hid (bt (bl HZ8.out _) hb9)
        have SA := Lib.hid hSA
        clear hb9 hSA hg9 HN8 HZ8
        go_wp2_with fail
        refine (same_any A11 AA c11 cA P P w9 (HT11.out.below HZ9.out) SA.out (by omega)).mono ?_
        rw [same_self]
        rintro e w10 ⟨rfl, hb10⟩
        have HN10 := Lib.hid (HN9.out.on hb10)
        have HZ10 := Lib.hid (bt HZ9.out hb10)
        have k0 := HN10.out.c0
        have k1 := HN10.out.c1
        clear hb10 HN9 HZ9 SA HT11
        go_wp2_with fail
        clear k0 k1
        refine (made_any 2 A (some ⟨w10.heap.size, 0, none⟩) c 1 xs [(s1, s2)] T _ (HA.out.below (bl HN10.out.ctx.below _)) (spans_new w10 [(s1, s2)]) (by omega) (by simp) YT.out).mono ?_
        rintro e w11 hg11
        obtain ⟨AB, cB, rfl, hSB, hb11⟩ := hg11.t
        have HN11 := Lib.hid ((HN10.out.on (bl (Below.refl _ _) _)).on hb11)
        have HZ11 := Lib.hid (bt (bl HZ10.out _) hb11)
        have SB := Lib.hid hSB
        clear hb11 hSB hg11 HN10 HZ10
        go_wp2_with fail
        refine (same_any A12 AB c12 cB T T w11 (HT12.out.below HZ11.out) SB.out (by omega)).mono ?_
        rw [same_self]
        rintro e w12 ⟨rfl, hb12⟩
        have HN12 := Lib.hid (HN11.out.on hb12)
        have HZ12 := Lib.hid (bt HZ11.out hb12)
        clear hb12 HN11 HZ11 SB HT12
        go_wp2_with fail
        refine (made_any 4 A none c 0 xs [] Ot _ (HA.out.below HN12.out.ctx.below) (Spans.nil _ _) (by omega) (by simp) YO.out).mono ?_
        rintro e w13 hg13
        obtain ⟨AC, cC, rfl, hSC, hb13⟩ := hg13.t
        have HN13 := Lib.hid (HN12.out.on hb13)
        have HZ13 := Lib.hid (bt HZ12.out hb13)
        have SC := Lib.hid hSC
        clear hb13 hSC hg13 HN12 HZ12
        go_wp2_with fail
        refine (same_any A14 AC c14 cC Ot Ot w13 (HT14.out.below HZ13.out) SC.out (by omega)).mono ?_
        rw [same_self]
        rintro e w14 ⟨rfl, hb14⟩
        have HN14 := Lib.hid (HN13.out.on hb14)
        have HZ14 := Lib.hid (bt HZ13.out hb14)
        clear hb14 HN13 HZ13 SC HT14
        go_wp2_with fail
        refine (refmay_any B d ys w14 (HB0.out.below HN14.out.ctx.below) (by omega)).mono ?_
        cases hO : mayB ys with
        | false =>
          rintro e w15 ⟨rfl, hb15⟩
          have HN15 := Lib.hid (HN14.out.on hb15)
          obtain rfl := nB2.out hO
          simp only [List.length_nil]
          clear hb15 HN14 hO nB2 YB HT13
          go_wp2_with fail
          refine (awake_any m _ HN15.out.ctx.tab HN15.out.ctx.len).mono ?_
          rintro e w16 ⟨rfl, hb16⟩
          go_wp2_with fail
          go_ret
          exact ⟨rfl, bt HN15.out.ctx.below hb16⟩
        | true =>
          rintro e w15 ⟨rfl, hb15⟩
          have HN15 := Lib.hid (HN14.out.on hb15)
          have HZ15 := Lib.hid (bt HZ14.out hb15)
          have YB := Lib.hid (YB.out hO)
          clear hb15 HN14 HZ14 hO nB2
          go_wp2_with fail
          refine (made_any 3 A B c d xs ys Bo _ (HA.out.below HN15.out.ctx.below) (HB0.out.below HN15.out.ctx.below) (by omega) (by omega) YB.out).mono ?_
          rintro e w16 hg16
          obtain ⟨AD, cD, rfl, hSD, hb16⟩ := hg16.t
          have HN16 := Lib.hid (HN15.out.on hb16)
          have HZ16 := Lib.hid (bt HZ15.out hb16)
          have SD := Lib.hid hSD
          clear hb16 hSD hg16 HN15 HZ15
          go_wp2_with fail
          refine (same_any A13 AD c13 cD Bo Bo w16 (HT13.out.below HZ16.out) SD.out (by omega)).mono ?_
          rw [same_self]
          rintro e w17 ⟨rfl, hb17⟩
          have HN17 := Lib.hid (HN16.out.on hb17)
          clear hb17 HN16 HZ16 SD HT13
          go_wp2_with fail
          refine (awake_any m _ HN17.out.ctx.tab HN17.out.ctx.len).mono ?_
          rintro e w18 ⟨rfl, hb18⟩
          go_wp2_with fail
          go_ret
          exact ⟨rfl, bt HN17.out.ctx.below hb18⟩

theorem makes_any (A B : Option Addr) (c d : Nat) (xs ys : List Sp) (s1 s2 no : Int) (m : Int) (w : World) (hA : Spans w A xs) (hB : Spans w B ys) (hT : Tab w) (hm : w.cell? ⟨0, 0, none⟩ = some (.int .i64 m)) :
    Calls Tryz.prog 3 #[.slice A xs.length c, .slice B ys.length d, .agg #[.int .i64 s1, .int .i64 s2], .int .i64 no] w fun e w' => e = .returned (.bool true) ∧ Below w.heap.size w w' := by
  by_cases h : 60 < xs.length ∨ 60 < ys.length
  · exact makes_long A B c d xs ys s1 s2 no m w hT hm h
  · exact makes_main A B c d xs ys s1 s2 no m w hA hB hT hm (by omega) (by omega)
end Go.Proofs.YtbbaaaomncegiaaGreatDoor
