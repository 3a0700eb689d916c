/-
  gatefoldref32.Made: the choice of all numbers that are asked for, in memory of the call's own; below the heap's size nothing turns.
-/
import Derived.Test.YtbbaaaomncegiaaGreatDoorMha
import Derived.Test.YtbbaaaomncegiaaGreatDoorRgb
import Derived.Deep.RegionHeld3
import Derived.Deep.RegionLaw
import Derived.Deep.AppendLies
namespace Go.Proofs.YtbbaaaomncegiaaGreatDoor
open Go.RowKit Go.Proofs.Spn Go.Proofs.Rng

def encN (n : Int) : List Value := [.int .i64 n]
theorem encN_len (n : Int) : (encN n).length = 1 := rfl
theorem encN_one (n : Int) : ∀ u ∈ encN n, u.oneCell' = true := by
  intro u hu
  simp only [encN, List.mem_cons, List.not_mem_nil, or_false] at hu
  subst hu
  rfl
theorem Tryz.infoInt : (Tryz.prog.info? 3).map (fun i => (i.zero, i.size, i.bytes)) = some (some (.int .i64 0), 1, 8) := by kernel_rfl
theorem ints_none {w : World} {l : List Int} (h : RowAt encN 1 w none l) : l = [] := by
  cases l with
  | nil => rfl
  | cons x r => obtain ⟨b, off, e, _⟩ := h 0 x rfl; cases e
theorem run_append_ints (w : World) (base : Nat) (v : Value) (l0 : List Int) (hown : w.ownsRow base 3 1 v l0.length (flatL encN l0)) (A : Option Addr) (c : Nat) (ys : List Int) (hA : RowAt encN 1 w A ys)
    (hn : l0.length + ys.length ≤ 2000000) (hb : base ≤ w.heap.size) :
    ∃ v' w', (Builtin.append_ #[34, 34] 34 #[v, .slice A ys.length c]).run Tryz.prog w = .ok v' w' ∧ w'.ownsRow base 3 1 v' (l0 ++ ys).length (flatL encN (l0 ++ ys)) ∧ w.grownBy w' v.ownBlock := by
  obtain ⟨i0, hi, hz0, hz1, hz2⟩ := info_parts Tryz.infoInt
  cases A with
  | none =>
    obtain rfl := ints_none hA
    refine ⟨v, w, ?_, by simpa using hown, World.grownBy.refl _ _⟩
    have ht := Tryz.underlying34
    rcases hown.2 with ⟨rfl, h0⟩ | ⟨g, cap, cur, rfl, _, _, hnc, _⟩
    · simp [Builtin.append_, run_underlying ht, sizeOf, typeInfo, hi, Builtin.lenOf, Builtin.firstCells]
    · simp [Builtin.append_, run_underlying ht, sizeOf, typeInfo, hi, Builtin.lenOf, Builtin.firstCells, hnc, storeCells]
  | some a =>
    obtain ⟨v', w', h1, h2, h3, _⟩ := run_append_own (P := Tryz.prog) w base 34 34 3 i0 _ 1 8 Tryz.underlying34 hi hz0 hz1 hz2 rfl (by decide) v l0.length (flatL encN l0) hown a ys.length c (flatL encN ys)
      (flatL_length encN_len ys) (hA.add encN_len (by decide)) (flatL_cells encN_one ys) (by unfold maxLen; omega) (by omega) hb
    exact ⟨v', w', h1, by rw [flatL_append, List.length_append]; exact h2, h3⟩
theorem step_append_ints {ops : Array Oper} {o : Oper} {a : Act} {w : World} {K : Act → World → Prop} {Q : Exit → Act → World → Prop} {E : Prop} (hg : o.guard = none) (s x : Operand)
    (ho : o.op = .call { callee := .builtin .append, args := #[s, x], argTypes := #[34, 34] }) (hty : o.type = 34)
    (base : Nat) (v : Value) (l0 : List Int) (hs : a.eval s = v) (hown : w.ownsRow base 3 1 v l0.length (flatL encN l0)) (A : Option Addr) (n c : Nat) (ys : List Int) (hx : a.eval x = .slice A n c) (hnl : n = ys.length) (hA : RowAt encN 1 w A ys)
    (hn : l0.length + ys.length ≤ 2000000) (hb : base ≤ w.heap.size)
    (h : ∀ v' w', w'.ownsRow base 3 1 v' (l0 ++ ys).length (flatL encN (l0 ++ ys)) → w.grownBy w' v.ownBlock → K (a.put o.dst v') w') : if Region.wanted o (yielded ops a.tmps) = true then Oper.wp Tryz.prog o a w K Q else E := by
  subst hnl
  obtain ⟨v', w', hr, h1, h2⟩ := run_append_ints w base v l0 hown A c ys hA hn hb
  rw [if_pos (by simp [Region.wanted, hg])]
  exact Lib.wp_append_run w s x _ _ ho v _ hs hx v' w' (by rw [hty]; exact hr) (h v' w' h1 h2)
theorem edges_new (w : World) : (w.alloc (.cells #[.int .i64 1, .int .i64 1000000] 3)).ownsRow w.heap.size 3 1 (.slice (some ⟨w.heap.size, 0, none⟩) 2 2) 2 (flatL encN [1, 1000000]) :=
  ⟨rfl, .inr ⟨w.heap.size, 2, #[.int .i64 1, .int .i64 1000000], rfl, Nat.le_refl _, heap_alloc_new w _, Nat.le_refl _, by decide, rfl, rfl⟩⟩

theorem made_last {w : World} {base g cap : Nat} {pre : List Sp} {p : Sp} (h : w.ownsRow base 24 2 (.slice (some ⟨g, 0, none⟩) (pre.length + 1) cap) (pre.length + 1) (flatS (pre ++ [p]))) :
    w.cell? ⟨g, pre.length * 2 + 1, none⟩ = some (.int .i64 p.2) := by
  obtain ⟨f1, f2⟩ := flatS_one (pre ++ [p]) pre.length p (by simp)
  exact (h.cellAt _ (by omega)).trans f2
theorem made_set (pre : List Sp) (p : Sp) (u : Int) : (flatS (pre ++ [p])).set (pre.length * 2 + 1) (.int .i64 u) = flatS (pre ++ [(p.1, u)]) := by
  rw [flatS_append, flatS_append, ← flatS_length pre]
  rw [List.set_append_right _ _ (by omega)]
  simp [flatS]
/-- What a maker of spans gives. -/
def MadeS (l : List Sp) (w : World) (e : Ending) (w' : World) : Prop := ∃ v, e = .returned v ∧ w'.ownsRow w.heap.size 24 2 v l.length (flatS l) ∧ Below w.heap.size w w'

set_option maxHeartbeats 8000000 in
set_option maxRecDepth 100000 in
theorem made_any (how : Int) (A B : Option Addr) (c d : Nat) (xs ys l : List Sp) (w : World) (hA : Spans w A xs) (hB : Spans w B ys) (hx : xs.length ≤ 400000) (hy : ys.length ≤ 400000) (hl : IsMade how xs ys l) :
    Calls Tryz.prog 14 #[.int .i64 how, .slice A xs.length c, .slice B ys.length d] w (MadeS l w) := by
  have HA := Lib.hid hA
  have HB0 := Lib.hid hB
  have HL := Lib.hid hl
  clear hA hB hl
  go_enter Tryz.func14, Tryz.ntmps14
  go_wp2_with fail
  have HI : Hid ((w.alloc (.cells #[.int .i64 1, .int .i64 1000000] 3)).ownsRow w.heap.size 3 1 (.slice (some ⟨w.heap.size, 0, none⟩) 2 2) ([1, 1000000] ++ endsS (xs.take 0)).length (flatL encN ([1, 1000000] ++ endsS (xs.take 0)))) := edges_new w
  go_loopw [7, 8] (fun v i wr => ∃ (k : Nat), k ≤ xs.length ∧ i = .int .i64 k ∧ Hid (wr.ownsRow w.heap.size 3 1 v ([1, 1000000] ++ endsS (xs.take k)).length (flatL encN ([1, 1000000] ++ endsS (xs.take k)))) ∧ Hid (Below w.heap.size w wr))
    (fun _ i _ => xs.length - (intOf i).toNat)
  case atStart => exact ⟨0, Nat.zero_le _, rfl, HI, bl (Below.refl _ _) _⟩
  case round =>
    clear HI
    obtain ⟨k, hk, rfl, HO, HB⟩ := hrel
    by_cases hlt : k < xs.length
    · obtain ⟨⟨x1, x2⟩, hx0⟩ : ∃ x, xs[k]? = some x := ⟨_, List.getElem?_eq_getElem hlt⟩
      obtain ⟨b, off, rfl, hb, c1, c2⟩ := HA.out.below HB.out k _ hx0
      simp only at c1 c2
      have hlt' : (k : Int) < (xs.length : Int) := by omega
      have i0 : (0 : Int) ≤ (k : Int) := by omega
      have HS : Hid ([1, 1000000] ++ endsS (xs.take (k + 1)) = ([1, 1000000] ++ endsS (xs.take k)) ++ [x1, x2]) := by show _ = _; rw [endsS_snoc hx0, List.append_assoc]
      have hol : ([1, 1000000] ++ endsS (xs.take k)).length ≤ 900000 := by have := endsS_take_le xs k; simp only [List.length_append, List.length_cons, List.length_nil]; omega
      generalize [1, 1000000] ++ endsS (xs.take k) = o at *
      have HX := Lib.hid hx0
      clear hx0
      have KEEP : Hid (∀ W, Below w.heap.size w W → W.cell? ⟨b, off + k * 2, none⟩ = some (.int .i64 x1) ∧ W.cell? ⟨b, off + k * 2 + 1, none⟩ = some (.int .i64 x2) ∧ Hid (Below w.heap.size w W)) := fun W h => by
        obtain ⟨b', off', e', _, d1, d2⟩ := HA.out.below h k _ HX.out
        injection e' with e'
        injection e' with e1 e2
        subst e1 e2
        exact ⟨d1, d2, h⟩
      clear c1 c2
      go_wp2_with fail
      go_region_held3 (fun W => W.cell? ⟨b, off + k * 2, none⟩ = some (.int .i64 x1) ∧ W.cell? ⟨b, off + k * 2 + 1, none⟩ = some (.int .i64 x2) ∧ Hid (Below w.heap.size w W))
        (exact KEEP.out _ (by first | assumption | (repeat (first | exact HB.out | refine bl ?_ _ | refine bd ?_))))
        ((refine step_append_ints (by rfl) _ _ (by rfl) (by rfl) w.heap.size _ o (by rfl) (HO.out.drew.alloc _) _ 2 2 [x1, x2] (by rfl) rfl (RowAt.new encN_len wr.drew 3 [x1, x2]) (by simp only [List.length_nil, List.length_cons]; omega) (bl (bd HB.out) _).size ?_; intro v5 w5 own5 grow5; have hb5 : Below w.heap.size w w5 := (bl (bd HB.out) _).grown grow5 (bl (bd HB.out) (.cells #[.int .i64 x1, .int .i64 x2] 3)).size fun q hq => (HO.out.lt q hq).1))
      have HB5 := Lib.hid hb5
      clear hb5
      have HO5 : Hid (w5.ownsRow w.heap.size 3 1 v5 ([1, 1000000] ++ endsS (xs.take (k + 1))).length (flatL encN ([1, 1000000] ++ endsS (xs.take (k + 1))))) := by
        show World.ownsRow _ _ _ _ _ _ _
        rw [HS.out]
        exact own5
      clear own5 grow5
      go_wp2_with fail
      go_roundw
      case rel => exact ⟨k + 1, by omega, by go_num, HO5, HB5⟩
      case measure => simp [intOf]; omega
    · have hlt' : ¬ (k : Int) < (xs.length : Int) := by omega
      have HO2 : Hid (wr.ownsRow w.heap.size 3 1 u7 ([1, 1000000] ++ endsS xs ++ endsS (ys.take 0)).length (flatL encN ([1, 1000000] ++ endsS xs ++ endsS (ys.take 0)))) := by
        have := HO.out
        rw [List.take_of_length_le (by omega)] at this
        show World.ownsRow _ _ _ _ _ _ _
        simpa [endsS] using this
      have HBX := HB
      clear HO HB
      go_wp2_with fail
      go_loopw [7, 9] (fun v i wr => ∃ (k : Nat), k ≤ ys.length ∧ i = .int .i64 k ∧ Hid (wr.ownsRow w.heap.size 3 1 v ([1, 1000000] ++ endsS xs ++ endsS (ys.take k)).length (flatL encN ([1, 1000000] ++ endsS xs ++ endsS (ys.take k)))) ∧ Hid (Below w.heap.size w wr))
        (fun _ i _ => ys.length - (intOf i).toNat)
      case atStart => exact ⟨0, Nat.zero_le _, rfl, HO2, HBX⟩
      case round =>
        clear HO2 HBX
        obtain ⟨k, hk, rfl, HO, HB⟩ := hrel
        by_cases hlt : k < ys.length
        · obtain ⟨⟨x1, x2⟩, hx0⟩ : ∃ x, ys[k]? = some x := ⟨_, List.getElem?_eq_getElem hlt⟩
          obtain ⟨b, off, rfl, hb, c1, c2⟩ := HB0.out.below HB.out k _ hx0
          simp only at c1 c2
          have hlt' : (k : Int) < (ys.length : Int) := by omega
          have i0 : (0 : Int) ≤ (k : Int) := by omega
          have HS : Hid ([1, 1000000] ++ endsS xs ++ endsS (ys.take (k + 1)) = ([1, 1000000] ++ endsS xs ++ endsS (ys.take k)) ++ [x1, x2]) := by show _ = _; rw [endsS_snoc hx0]; simp [List.append_assoc]
          have hol : ([1, 1000000] ++ endsS xs ++ endsS (ys.take k)).length ≤ 1900000 := by have := endsS_take_le ys k; have := endsS_length xs; simp only [List.length_append, List.length_cons, List.length_nil]; omega
          generalize [1, 1000000] ++ endsS xs ++ endsS (ys.take k) = o at *
          have HX := Lib.hid hx0
          clear hx0
          have KEEP : Hid (∀ W, Below w.heap.size w W → W.cell? ⟨b, off + k * 2, none⟩ = some (.int .i64 x1) ∧ W.cell? ⟨b, off + k * 2 + 1, none⟩ = some (.int .i64 x2) ∧ Hid (Below w.heap.size w W)) := fun W h => by
            obtain ⟨b', off', e', _, d1, d2⟩ := HB0.out.below h k _ HX.out
            injection e' with e'
            injection e' with e1 e2
            subst e1 e2
            exact ⟨d1, d2, h⟩
          clear c1 c2
          go_wp2_with fail
          go_region_held3 (fun W => W.cell? ⟨b, off + k * 2, none⟩ = some (.int .i64 x1) ∧ W.cell? ⟨b, off + k * 2 + 1, none⟩ = some (.int .i64 x2) ∧ Hid (Below w.heap.size w W))
            (exact KEEP.out _ (by first | assumption | (repeat (first | exact HB.out | refine bl ?_ _ | refine bd ?_))))
            ((refine step_append_ints (by rfl) _ _ (by rfl) (by rfl) w.heap.size _ o (by rfl) (HO.out.drew.alloc _) _ 2 2 [x1, x2] (by rfl) rfl (RowAt.new encN_len wr.drew 3 [x1, x2]) (by simp only [List.length_nil, List.length_cons]; omega) (bl (bd HB.out) _).size ?_; intro v5 w5 own5 grow5; have hb5 : Below w.heap.size w w5 := (bl (bd HB.out) _).grown grow5 (bl (bd HB.out) (.cells #[.int .i64 x1, .int .i64 x2] 3)).size fun q hq => (HO.out.lt q hq).1))
          have HB5 := Lib.hid hb5
          clear hb5
          have HO5 : Hid (w5.ownsRow w.heap.size 3 1 v5 ([1, 1000000] ++ endsS xs ++ endsS (ys.take (k + 1))).length (flatL encN ([1, 1000000] ++ endsS xs ++ endsS (ys.take (k + 1))))) := by
            show World.ownsRow _ _ _ _ _ _ _
            rw [HS.out]
            exact own5
          clear own5 grow5
          go_wp2_with fail
          go_roundw
          case rel => exact ⟨k + 1, by omega, by go_num, HO5, HB5⟩
          case measure => simp [intOf]; omega
        · have hlt' : ¬ (k : Int) < (ys.length : Int) := by omega
          have ho := HO.out
          rw [List.take_of_length_le (by omega)] at ho
          obtain ⟨A7, c7, rfl, hE, _⟩ := RowAt.of_own encN_len ho
          have hel : ([1, 1000000] ++ endsS xs ++ endsS ys).length ≤ 2000000 := by have := endsS_length xs; have := endsS_length ys; simp only [List.length_append, List.length_cons, List.length_nil]; omega
          have HST : Hid (∀ a n, NextI ([1, 1000000] ++ endsS xs ++ endsS ys) a n → Still xs a n ∧ Still ys a n) := fun a n h => h.still
          have HE := Lib.hid hE
          have HBX := HB
          clear ho HO hE HB
          generalize [1, 1000000] ++ endsS xs ++ endsS ys = E at *
          generalize wr = wE at *
          go_wp2_with fail
          have hws := HBX.out.size
          go_loopw [10, 11] (fun v i wq => ∃ (a : Int) (o : List Sp), i = .int .i64 a ∧ Hid (MadeI how xs ys a o) ∧ Hid (wq.ownsRow wE.heap.size 24 2 v o.length (flatS o)) ∧ Hid (Below wE.heap.size wE wq))
            (fun _ i _ => (1000000 - intOf i).toNat)
          case atStart => exact ⟨1, [], rfl, MadeI.start _ _ _, World.ownsRow_nil _ _ _ _, Below.refl _ _⟩
          case round =>
            obtain ⟨a, o, rfl, HM, HO, HB⟩ := hrel
            generalize wr = wq at *
            by_cases ha : a < 1000000
            · have ha' := decide_eq_true ha
              have HN0 := Lib.hid (NextI.start ha)
              go_wp2_with fail
              go_loopw [12, 13] (fun n i wi => ∃ (b : Int) (k : Nat), n = .int .i64 b ∧ i = .int .i64 k ∧ k ≤ E.length ∧ Hid (NextI (E.take k) a b) ∧ wi = wq)
                (fun _ i _ => E.length - (intOf i).toNat)
              case atStart => exact ⟨1000000, 0, rfl, rfl, Nat.zero_le _, HN0, rfl⟩
              case round =>
                obtain ⟨b, k, rfl, rfl, hk, HN, hwi⟩ := hrel
                subst hwi
                by_cases hlt : k < E.length
                · obtain ⟨e, hx0⟩ : ∃ x, E[k]? = some x := ⟨_, List.getElem?_eq_getElem hlt⟩
                  obtain ⟨g, off, rfl, hb, hc⟩ := HE.out.below HB.out k e hx0
                  have c1 := hc 0 _ rfl
                  simp only [Nat.add_zero, Nat.mul_one] at c1
                  have hlt' : (k : Int) < (E.length : Int) := by omega
                  have i0 : (0 : Int) ≤ (k : Int) := by omega
                  have HX := Lib.hid hx0
                  clear hc hx0 HN0
                  by_cases p1 : a < e
                  · have q1 := decide_eq_true p1
                    by_cases p2 : e < b
                    · have q2 := decide_eq_true p2
                      have HN2 := Lib.hid (HN.out.take HX.out p1 p2)
                      go_wp2_with fail
                      go_roundw
                      case rel => exact ⟨e, k + 1, rfl, by go_num, by omega, HN2, trivial⟩
                      case measure => simp [intOf]; omega
                    · have q2 := decide_eq_false p2
                      have HN2 := Lib.hid (HN.out.skip HX.out fun h => p2 h.2)
                      go_wp2_with fail
                      go_roundw
                      case rel => exact ⟨b, k + 1, rfl, by go_num, by omega, HN2, trivial⟩
                      case measure => simp [intOf]; omega
                  · have q1 := decide_eq_false p1
                    have HN2 := Lib.hid (HN.out.skip HX.out fun h => p1 h.1)
                    go_wp2_with fail
                    go_roundw
                    case rel => exact ⟨b, k + 1, rfl, by go_num, by omega, HN2, trivial⟩
                    case measure => simp [intOf]; omega
                · have hlt' : ¬ (k : Int) < (E.length : Int) := by omega
                  have hn := HN.out
                  rw [List.take_of_length_le (by omega)] at hn
                  obtain ⟨s1, s2⟩ := HST.out _ _ hn
                  have b1 := hn.lo
                  have b2 := hn.hi
                  have HY : Hid (askB how xs ys a = true → MadeI how xs ys b (addS o (a, b))) := fun h => HM.out.yes b1 b2 s1 s2 h
                  have HZ : Hid (askB how xs ys a = false → MadeI how xs ys b o) := fun h => HM.out.no b1 b2 s1 s2 h
                  have C1 := Lib.hid (refin_any how A B c d xs ys a wr (HA.out.below (bt HBX.out HB.out)) (HB0.out.below (bt HBX.out HB.out)) (by omega) (by omega))
                  generalize askB how xs ys a = K at *
                  clear hn HN HN0 s1 s2
                  cases K with
                  | false =>
                    have HM2 := Lib.hid (HZ.out rfl)
                    clear HY HZ
                    go_wp2_with fail
                    refine C1.out.mono ?_
                    rintro e w2 ⟨rfl, hb2⟩
                    have HO2 := Lib.hid (ob HO.out hb2)
                    have HB2 := Lib.hid (hb2.mono HB.out.size |> HB.out.trans)
                    clear hb2 C1
                    go_wp2_with fail
                    go_roundw
                    case rel => exact ⟨b, o, rfl, HM2, HO2, HB2⟩
                    case measure => simp [intOf]; omega
                  | true =>
                    have HM2 := Lib.hid (HY.out rfl)
                    clear HY HZ
                    go_wp2_with fail
                    refine C1.out.mono ?_
                    rintro e w2 ⟨rfl, hb2⟩
                    have HO2 := Lib.hid (ob HO.out hb2)
                    have HB2 := Lib.hid (hb2.mono HB.out.size |> HB.out.trans)
                    have hol := HM.out.room
                    clear hb2 C1 HO HB
                    rcases List.eq_nil_or_concat o with rfl | ⟨pre, p, e⟩
                    · obtain ⟨A', c', hv, hrest⟩ := Spans.of_own (xs := []) HO2.out
                      clear hrest
                      subst hv
                      simp only [List.length_nil]
                      have HM3 : Hid (MadeI how xs ys b (([] : List Sp) ++ [(a, b)])) := HM2.out
                      clear HM2 HM
                      go_wp2_with (at_builtin; refine wpList_append_spans (by rfl) _ _ (by rfl) (by rfl) wE.heap.size (.slice A' 0 c') ([] : List Sp) (by rfl) (HO2.out.alloc _) (some ⟨w2.heap.size, 0, none⟩) 1 1 [(a, b)] (by rfl) rfl (spans_new w2 [(a, b)]) (by simp only [List.length_nil, List.length_cons]; omega) (bl HB2.out _).size ?_)
                      intro v5 w5 own5 grow5
                      have HB5 := Lib.hid ((bl HB2.out _).grown grow5 (bl HB2.out (.cells #[.int .i64 a, .int .i64 b] 24)).size fun j hj => (HO2.out.lt j hj).1)
                      have HO5 : Hid (w5.ownsRow wE.heap.size 24 2 v5 (([] : List Sp) ++ [(a, b)]).length (flatS (([] : List Sp) ++ [(a, b)]))) := by
                        show World.ownsRow _ _ _ _ _ _ _
                        simpa using own5
                      clear own5 grow5
                      go_wp2_with fail
                      go_roundw
                      case rel => exact ⟨b, ([] : List Sp) ++ [(a, b)], rfl, HM3, HO5, HB5⟩
                      case measure => simp [intOf]; omega
                    · rw [List.concat_eq_append] at e
                      subst e
                      obtain ⟨g, cp, hvs, hbg, _⟩ := HO2.out.form (by simp)
                      subst hvs
                      obtain ⟨p1, p2⟩ := p
                      obtain ⟨hp2, hadd⟩ := HM.out.last b b1
                      rw [hadd] at HM2
                      simp only at hp2 HM2
                      clear hadd HM
                      simp only [List.length_append, List.length_singleton] at hol HO2 ⊢
                      have e1 : IntKind.i64.wrap ((pre.length : Int) + 1 - 1) = pre.length := by rw [show (pre.length : Int) + 1 - 1 = pre.length by omega]; exact IntWalk.i64_in _ (by omega)
                      have e2 : (0 : Int) ≤ (pre.length : Int) := by omega
                      have e3 : (pre.length : Int) < (pre.length : Int) + 1 := by omega
                      have e4 : pre.length < pre.length + 1 := by omega
                      have e5 : (0 : Int) < (pre.length : Int) + 1 := by omega
                      have e6 : decide ((0 : Int) < (pre.length : Int) + 1) = true := decide_eq_true e5
                      have k1 := made_last HO2.out
                      simp only at k1
                      by_cases hq : p2 = a
                      · subst hq
                        rw [if_pos rfl] at HM2
                        have hfr := HO2.out.frozenAt (pre.length * 2 + 1)
                        have hgw := (HO2.out.lt g rfl).1
                        have HO5 : Hid ((w2.setCell ⟨g, pre.length * 2 + 1, none⟩ (.int .i64 b)).ownsRow wE.heap.size 24 2 (.slice (some ⟨g, 0, none⟩) (pre.length + 1) cp) (pre ++ [(p1, b)]).length (flatS (pre ++ [(p1, b)]))) := by
                          have := (World.ownsRow.stored HO2.out (pre.length * 2 + 1) (.int .i64 b)).1
                          rw [made_set] at this
                          show World.ownsRow _ _ _ _ _ _ _
                          simpa using this
                        have HB5 := Lib.hid (bset HB2.out (p := ⟨g, pre.length * 2 + 1, none⟩) hgw (.int .i64 b))
                        go_wp2_with fail
                        go_roundw
                        case rel => exact ⟨b, pre ++ [(p1, b)], rfl, HM2, by simpa using HO5, HB5⟩
                        case measure => simp [intOf]; omega
                      · rw [if_neg hq] at HM2
                        have hq' : (p2 == a) = false := by simpa using hq
                        go_wp2_with (at_builtin; refine wpList_append_spans (by rfl) _ _ (by rfl) (by rfl) wE.heap.size (.slice (some ⟨g, 0, none⟩) (pre.length + 1) cp) (pre ++ [(p1, p2)]) (by rfl) (by have := HO2.out.alloc (.cells #[.int .i64 a, .int .i64 b] 24); simpa using this) (some ⟨w2.heap.size, 0, none⟩) 1 1 [(a, b)] (by rfl) rfl (spans_new w2 [(a, b)]) (by simp only [List.length_nil, List.length_append, List.length_cons]; omega) (bl HB2.out _).size ?_)
                        intro v5 w5 own5 grow5
                        have HB5 := Lib.hid ((bl HB2.out _).grown grow5 (bl HB2.out (.cells #[.int .i64 a, .int .i64 b] 24)).size fun j hj => (HO2.out.lt j hj).1)
                        have HO5 : Hid (w5.ownsRow wE.heap.size 24 2 v5 (pre ++ [(p1, p2)] ++ [(a, b)]).length (flatS (pre ++ [(p1, p2)] ++ [(a, b)]))) := by
                          show World.ownsRow _ _ _ _ _ _ _
                          simpa using own5
                        clear own5 grow5
                        go_wp2_with fail
                        go_roundw
                        case rel => exact ⟨b, pre ++ [(p1, p2)] ++ [(a, b)], rfl, HM2, HO5, HB5⟩
                        case measure => simp [intOf]; omega
            · have ha' := decide_eq_false ha
              have e : o = l := HM.out.end_ ha HL.out
              have hO := HO.out
              rw [e] at hO
              have HO3 := Lib.hid hO
              clear e hO HO
              go_wp2_with fail
              go_ret
              exact ⟨_, rfl, ownsRow_base HO3.out hws, bt HBX.out HB.out⟩
end Go.Proofs.YtbbaaaomncegiaaGreatDoor
