/-
  ranges.less, Put, Take, Both, Others: the choices that are made of choices; below the heap's size nothing turns.
-/
import Derived.Test.YtbbaaaomncegiaaGreatDoorRgc
import Derived.Test.YtbbaaaomncegiaaGreatDoorLes
namespace Go.Proofs.YtbbaaaomncegiaaGreatDoor
open Go.RowKit Go.Proofs.Spn Go.Proofs.Rng

/-- What a function that gives spans returns. -/
def GivesS (l : List Sp) (w : World) (e : Ending) (w' : World) : Prop := ∃ A c, e = .returned (.slice A l.length c) ∧ Spans w' A l ∧ Below w.heap.size w w' ∧ ∀ a, A = some a → w.heap.size ≤ a.block
theorem GivesS.of {l : List Sp} {w w' : World} {base : Nat} {v : Value} (h : w'.ownsRow base 24 2 v l.length (flatS l)) (hb : Below w.heap.size w w') (hB : w.heap.size ≤ base) : GivesS l w (.returned v) w' := by
  obtain ⟨A, c, rfl, hS, _, _, _, h1⟩ := Spans.of_own h
  exact ⟨A, c, rfl, hS, hb, fun a ha => Nat.le_trans hB (h1 a ha).1⟩
theorem GivesS.none {w w' : World} (hb : Below w.heap.size w w') : GivesS [] w (.returned (.slice none 0 0)) w' := ⟨_, _, rfl, Spans.nil _ _, hb, fun a ha => by cases ha⟩
theorem cell_keep {w W : World} {a : Addr} {v : Value} (h : w.cell? a = some v) (hb : Below w.heap.size w W) : W.cell? a = some v := (hb.cell (World.block_lt_of_cell? _ _ h)).trans h
theorem cell_more {w : World} {a : Addr} {v : Value} (h : w.cell? a = some v) (o : Obj) : (w.alloc o).cell? a = some v := (World.cell?_alloc_lt w o a (World.block_lt_of_cell? _ _ h)).trans h

set_option maxHeartbeats 1000000 in
theorem rless_any (s1 s2 : Int) (A : Option Addr) (c : Nat) (xs : List Sp) (w : World) (hA : Spans w A xs) (hn : xs.length ≤ 1000000) :
    Calls Tryz.prog 31 #[.agg #[.int .i64 s1, .int .i64 s2], .slice A xs.length c] w fun e w' => ∃ v, e = .returned v ∧ w'.ownsRow w.heap.size 24 2 v (rLess (s1, s2) xs).length (flatS (rLess (s1, s2) xs)) ∧ Below w.heap.size w w' := by
  have HA := Lib.hid hA
  clear hA
  go_enter Tryz.func31, Tryz.ntmps31
  go_wp2_with fail
  refine (less_any s1 s2 A c xs _ (HA.out.below (bl (Below.refl _ w) _)) (by omega)).mono ?_
  rintro e w1 ⟨v, rfl, hr, hb, _⟩
  have HR := Lib.hid hr
  have HB := Lib.hid (bt (bl (Below.refl _ w) _) hb)
  clear hr hb
  go_wp2_with fail
  go_ret
  exact ⟨v, rfl, ownsRow_base HR.out (by simp), HB.out⟩

/-! ### Take -/
set_option maxHeartbeats 1000000 in
theorem take1_gives (cb : Nat) (s1 s2 : Int) (w0 : World) (h0 : w0.cell? ⟨cb, 0, none⟩ = some (.int .i64 s1)) (h1 : w0.cell? ⟨cb, 1, none⟩ = some (.int .i64 s2)) : Gives1 30 cb (fun x => rLess x [(s1, s2)]) w0 := by
  intro x1 x2 W hB
  have c0 := fun o => cell_more (cell_keep h0 hB) o
  have c1 := fun o => cell_more (cell_keep h1 hB) o
  go_enter Tryz.func30, Tryz.ntmps30
  go_wp2_with fail
  refine (rless_any x1 x2 (some ⟨W.heap.size + 1, 0, none⟩) 1 [(s1, s2)] _ (by have := spans_new (W.alloc (.cells #[.int .i64 x1, .int .i64 x2] 24)) [(s1, s2)]; rw [World.size_alloc] at this; exact this) (by simp)).mono ?_
  rintro e w1 ⟨v, rfl, hr, hb⟩
  have HR := Lib.hid hr
  have HB := Lib.hid (bt (bl (bl (Below.refl _ W) _) _) hb)
  clear hr hb c0 c1 h0 h1 hB
  go_wp2_with fail
  go_ret
  exact ⟨v, rfl, ownsRow_base HR.out (by simp; omega), HB.out⟩
set_option maxHeartbeats 2000000 in
theorem take_any (A : Option Addr) (c : Nat) (xs : List Sp) (s1 s2 : Int) (w : World) (hA : Spans w A xs) (hn : xs.length ≤ 900000) :
    Calls Tryz.prog 7 #[.slice A xs.length c, .agg #[.int .i64 s1, .int .i64 s2]] w (GivesS (takeS xs (s1, s2)) w) := by
  have eg : ∀ args w, (callFunc 30 args).run Tryz.prog w = .ok (.enter 30 args) w := enters_of Tryz.func30 (by kernel_rfl) rfl
  have EG := Lib.hid eg
  have HA := Lib.hid hA
  clear hA eg
  have HB0 : Hid (Below w.heap.size w (w.alloc (.cells #[.int .i64 s1, .int .i64 s2] 24))) := bl (Below.refl _ _) _
  have CM := Lib.hid (may_any A c xs _ (HA.out.below HB0.out) (by omega))
  have E0 : Hid (mayB xs = false → takeS xs (s1, s2) = []) := fun h => by unfold takeS; rw [h]; rfl
  have E1 : Hid (mayB xs = true → takeS xs (s1, s2) = xs.flatMap fun x => rLess x [(s1, s2)]) := fun h => by unfold takeS; rw [h]; rfl
  obtain ⟨R, hR⟩ : ∃ R, takeS xs (s1, s2) = R := ⟨_, rfl⟩
  rw [hR] at E0 E1 ⊢
  generalize mayB xs = B at CM E0 E1
  clear hR
  cases B with
  | false =>
    have E := Lib.hid (E0.out rfl)
    clear E0 E1
    go_enter Tryz.func7, Tryz.ntmps7
    go_wp2_with (go_at_call 24; refine CM.out.mono ?_; rintro e w1 ⟨rfl, hb1⟩)
    go_ret
    rw [E.out]
    exact GivesS.none (bt HB0.out hb1)
  | true =>
    have E := Lib.hid (E1.out rfl)
    clear E0 E1
    go_enter Tryz.func7, Tryz.ntmps7
    go_wp2_with (go_at_call 24; refine CM.out.mono ?_; rintro e w1 ⟨rfl, hb1⟩)
    have HB1 := Lib.hid (bt HB0.out hb1)
    have HG := Lib.hid (take1_gives w.heap.size s1 s2 w1 ((hb1.cell (p := ⟨w.heap.size, 0, none⟩) (by simp)).trans (by simp)) ((hb1.cell (p := ⟨w.heap.size, 1, none⟩) (by simp)).trans (by simp)))
    clear hb1 HB0 CM
    refine (each1_any _ _ _ EG.out A c xs w1 HG.out (HA.out.below HB1.out) 2 (fun x _ => rLess_length x [(s1, s2)]) (by omega) (by omega)).mono ?_
    rintro e w2 ⟨v, rfl, hr, hb2⟩
    have HR : Hid (w2.ownsRow w1.heap.size 24 2 v R.length (flatS R)) := by rw [E.out]; exact hr
    have HB2 := Lib.hid (bt HB1.out hb2)
    clear hr hb2
    go_wp2_with fail
    go_ret
    exact GivesS.of HR.out HB2.out HB1.out.size

/-! ### Both -/
theorem own_one (w : World) (m : Sp) : (w.alloc (.cells #[.int .i64 m.1, .int .i64 m.2] 24)).ownsRow w.heap.size 24 2 (.slice (some ⟨w.heap.size, 0, none⟩) 1 1) 1 (flatS [m]) :=
  ⟨rfl, .inr ⟨w.heap.size, 1, #[.int .i64 m.1, .int .i64 m.2], rfl, Nat.le_refl _, heap_alloc_new w _, Nat.le_refl _, by decide, rfl, rfl⟩⟩
set_option maxHeartbeats 1000000 in
theorem both2_gives (cb : Nat) (s1 s2 : Int) (w0 : World) (h0 : w0.cell? ⟨cb, 0, none⟩ = some (.int .i64 s1)) (h1 : w0.cell? ⟨cb, 1, none⟩ = some (.int .i64 s2)) : Gives1 33 cb (fun y => [meetS (s1, s2) y]) w0 := by
  intro x1 x2 W hB
  have c0 := fun o => cell_more (cell_keep h0 hB) o
  have c1 := fun o => cell_more (cell_keep h1 hB) o
  have cm := fun W => meet_any s1 s2 x1 x2 W
  show Calls Tryz.prog _ _ _ fun e w' => ∃ v, e = .returned v ∧ w'.ownsRow W.heap.size 24 2 v 1 (flatS [meetS (s1, s2) (x1, x2)]) ∧ Below W.heap.size W w'
  generalize meetS (s1, s2) (x1, x2) = m at cm ⊢
  obtain ⟨m1, m2⟩ := m
  go_enter Tryz.func33, Tryz.ntmps33
  go_wp2_with (go_at_call 27; refine (cm _).mono ?_; rintro e w1 ⟨rfl, hb⟩)
  go_ret
  exact ⟨_, rfl, ownsRow_base (own_one w1 (m1, m2)) (bt (bl (Below.refl W.heap.size W) _) hb).size, bl (bt (bl (Below.refl _ _) _) hb) _⟩
theorem flat_map (l : List Sp) (f : Sp → Sp) : (l.flatMap fun y => [f y]) = l.map f := by
  induction l with
  | nil => rfl
  | cons s r ih => rw [List.flatMap_cons, ih]; rfl
set_option maxHeartbeats 2000000 in
theorem both1_gives (cb : Nat) (A : Option Addr) (c : Nat) (bs : List Sp) (w0 : World) (h0 : w0.cell? ⟨cb, 0, none⟩ = some (.slice A bs.length c)) (hA : Spans w0 A bs) (hn : bs.length ≤ 900000) : Gives1 32 cb (fun x => joinS (bs.map fun y => meetS x y)) w0 := by
  intro x1 x2 W hB
  have c0 := fun o => cell_more (cell_keep h0 hB) o
  have eg : ∀ args w, (callFunc 33 args).run Tryz.prog w = .ok (.enter 33 args) w := enters_of Tryz.func33 (by kernel_rfl) rfl
  have EG := Lib.hid eg
  have HA := Lib.hid ((hA.below hB).below (bl (Below.refl W.heap.size W) (.cells #[.int .i64 x1, .int .i64 x2] 24)))
  have HG := Lib.hid (both2_gives W.heap.size x1 x2 (W.alloc (.cells #[.int .i64 x1, .int .i64 x2] 24)) (by simp) (by simp))
  clear eg hA h0 hB
  show Calls Tryz.prog _ _ _ fun e w' => ∃ v, e = .returned v ∧ w'.ownsRow W.heap.size 24 2 v (joinS (bs.map fun y => meetS (x1, x2) y)).length (flatS (joinS (bs.map fun y => meetS (x1, x2) y))) ∧ Below W.heap.size W w'
  obtain ⟨L, hL⟩ : ∃ L, (bs.map fun y => meetS (x1, x2) y) = L := ⟨_, rfl⟩
  rw [hL]
  go_enter Tryz.func32, Tryz.ntmps32
  go_wp2_with fail
  refine (each1_any _ _ _ EG.out A c bs _ HG.out HA.out 1 (fun x _ => Nat.le_refl _) (by omega) (by omega)).mono ?_
  rintro e w1 ⟨v, rfl, hr, hb1⟩
  rw [flat_map, hL] at hr
  obtain ⟨A1, c1, rfl, hO, hl1, hl2⟩ := Own2.of_row hr
  have HB1 := Lib.hid (bt (bl (Below.refl W.heap.size W) _) hb1)
  have HO := Lib.hid hO
  have hlm : L.length ≤ 900000 := by rw [← hL, List.length_map]; exact hn
  unfold maxLen at hl2
  have hw1 := hb1.size
  clear hr hb1 hO c0 hL
  go_wp2_with fail
  refine (joined_any _ A1 c1 L w1 HO.out hw1 hl1 hl2 (by omega)).mono ?_
  rintro e w2 ⟨v, rfl, hr, hb2⟩
  have HR := Lib.hid hr
  have HB2 := Lib.hid (HB1.out.trans (hb2.mono (by simp)))
  have hww := HB1.out.size
  clear hr hb2
  go_wp2_with fail
  go_ret
  exact ⟨v, rfl, ownsRow_base HR.out hww, HB2.out⟩
set_option maxHeartbeats 2000000 in
theorem both_any (A B : Option Addr) (c d : Nat) (xs ys : List Sp) (w : World) (hA : Spans w A xs) (hB : Spans w B ys) (hn : xs.length * ys.length + ys.length ≤ 900000) (hx : xs.length ≤ 900000) :
    Calls Tryz.prog 8 #[.slice A xs.length c, .slice B ys.length d] w (GivesS (bothS xs ys) w) := by
  have eg : ∀ args w, (callFunc 32 args).run Tryz.prog w = .ok (.enter 32 args) w := enters_of Tryz.func32 (by kernel_rfl) rfl
  have EG := Lib.hid eg
  have HA := Lib.hid hA
  have HBB := Lib.hid hB
  clear hA hB eg
  have HB0 : Hid (Below w.heap.size w (w.alloc (.cells #[.slice B ys.length d] 22))) := bl (Below.refl _ _) _
  have CM := Lib.hid (may_any A c xs _ (HA.out.below HB0.out) (by omega))
  have CN := Lib.hid fun (W : World) (h : Below w.heap.size w W) => may_any B d ys W (HBB.out.below h) (by omega)
  have E0 : Hid ((mayB xs && mayB ys) = false → bothS xs ys = []) := fun h => by unfold bothS; rw [h]; rfl
  have E1 : Hid ((mayB xs && mayB ys) = true → bothS xs ys = xs.flatMap fun x => joinS (ys.map fun y => meetS x y)) := fun h => by unfold bothS; rw [h]; rfl
  obtain ⟨R, hR⟩ : ∃ R, bothS xs ys = R := ⟨_, rfl⟩
  rw [hR] at E0 E1 ⊢
  generalize mayB xs = B1 at CM E0 E1
  generalize mayB ys = B2 at CN E0 E1
  clear hR
  have hc : ∀ w1, Below (w.alloc (.cells #[.slice B ys.length d] 22)).heap.size (w.alloc (.cells #[.slice B ys.length d] 22)) w1 → w1.cell? ⟨w.heap.size, 0, none⟩ = some (.slice B ys.length d) := fun w1 h => (h.cell (p := ⟨w.heap.size, 0, none⟩) (by simp)).trans (by simp)
  have HC := Lib.hid hc
  clear hc
  cases B1 with
  | false =>
    have E := Lib.hid (E0.out rfl)
    clear E0 E1
    go_enter Tryz.func8, Tryz.ntmps8
    go_wp2_with (go_at_call 24; refine CM.out.mono ?_; rintro e w1 ⟨rfl, hb1⟩)
    go_ret
    rw [E.out]
    exact GivesS.none (bt HB0.out hb1)
  | true =>
    cases B2 with
    | false =>
      have E := Lib.hid (E0.out rfl)
      clear E0 E1
      go_enter Tryz.func8, Tryz.ntmps8
      go_wp2_with fail
      refine CM.out.mono ?_
      rintro e w1 ⟨rfl, hb1⟩
      have c1 := HC.out w1 hb1
      have HB1 := Lib.hid (bt HB0.out hb1)
      clear hb1
      go_wp2_with fail
      refine (CN.out w1 HB1.out).mono ?_
      rintro e w2 ⟨rfl, hb2⟩
      have HB2 := Lib.hid (bt HB1.out hb2)
      clear hb2
      go_wp2_with fail
      go_ret
      rw [E.out]
      exact GivesS.none HB2.out
    | true =>
      have E := Lib.hid (E1.out rfl)
      clear E0 E1
      go_enter Tryz.func8, Tryz.ntmps8
      go_wp2_with fail
      refine CM.out.mono ?_
      rintro e w1 ⟨rfl, hb1⟩
      have c1 := HC.out w1 hb1
      have HB1 := Lib.hid (bt HB0.out hb1)
      clear hb1
      go_wp2_with fail
      refine (CN.out w1 HB1.out).mono ?_
      rintro e w2 ⟨rfl, hb2⟩
      have HB2 := Lib.hid (bt HB1.out hb2)
      have c2 := cell_keep c1 hb2
      have HG := Lib.hid (both1_gives w.heap.size B d ys w2 c2 (HBB.out.below HB2.out) (by omega))
      clear hb2 c1 c2
      go_wp2_with fail
      refine (each1_any _ _ _ EG.out A c xs w2 HG.out (HA.out.below HB2.out) ys.length (fun x _ => by have := joinS_length (ys.map fun y => meetS x y); simpa using this) (by omega) (by omega)).mono ?_
      rintro e w3 ⟨v, rfl, hr, hb3⟩
      have HR : Hid (w3.ownsRow w2.heap.size 24 2 v R.length (flatS R)) := by rw [E.out]; exact hr
      have HB3 := Lib.hid (bt HB2.out hb3)
      clear hr hb3
      go_wp2_with fail
      go_ret
      exact GivesS.of HR.out HB3.out HB2.out.size

/-! ### Others -/
set_option maxHeartbeats 2000000 in
theorem others_any (A : Option Addr) (c : Nat) (xs : List Sp) (w : World) (hA : Spans w A xs) (hn : xs.length ≤ 900000) :
    Calls Tryz.prog 9 #[.slice A xs.length c] w (GivesS (othersS xs) w) := by
  have HA := Lib.hid hA
  have CM := Lib.hid (may_any A c xs w hA (by omega))
  clear hA
  have E0 : Hid (mayB xs = false → othersS xs = []) := fun h => by unfold othersS; rw [h]; rfl
  have E1 : Hid (mayB xs = true → othersS xs = rLess (1, 1000000) xs) := fun h => by unfold othersS; rw [h]; rfl
  obtain ⟨R, hR⟩ : ∃ R, othersS xs = R := ⟨_, rfl⟩
  rw [hR] at E0 E1 ⊢
  generalize mayB xs = B at CM E0 E1
  clear hR
  cases B with
  | false =>
    have E := Lib.hid (E0.out rfl)
    clear E0 E1
    go_enter Tryz.func9, Tryz.ntmps9
    go_wp2_with (go_at_call 24; refine CM.out.mono ?_; rintro e w1 ⟨rfl, hb1⟩)
    go_ret
    rw [E.out]
    exact GivesS.none hb1
  | true =>
    have E := Lib.hid (E1.out rfl)
    clear E0 E1
    go_enter Tryz.func9, Tryz.ntmps9
    go_wp2_with fail
    refine CM.out.mono ?_
    rintro e w1 ⟨rfl, hb1⟩
    have HB1 := Lib.hid hb1
    clear hb1
    go_wp2_with fail
    refine (whole_any w1).mono ?_
    rintro e w2 ⟨rfl, hb2⟩
    have HB2 := Lib.hid (bt HB1.out hb2)
    clear hb2
    go_wp2_with fail
    refine (rless_any 1 1000000 A c xs w2 (HA.out.below HB2.out) (by omega)).mono ?_
    rintro e w3 ⟨v, rfl, hr, hb3⟩
    have HR : Hid (w3.ownsRow w2.heap.size 24 2 v R.length (flatS R)) := by rw [E.out]; exact hr
    have HB3 := Lib.hid (bt HB2.out hb3)
    clear hr hb3
    go_wp2_with fail
    go_ret
    exact GivesS.of HR.out HB3.out HB2.out.size
end Go.Proofs.YtbbaaaomncegiaaGreatDoor
