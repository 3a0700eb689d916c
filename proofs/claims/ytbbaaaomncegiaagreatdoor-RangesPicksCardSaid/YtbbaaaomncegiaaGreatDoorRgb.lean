/-
  Spans behind an own row of spans; slices.ContainsFunc, ranges.Has; ranges.each over spans: what a function value gives of each, one behind the other.
-/
import Derived.Test.YtbbaaaomncegiaaGreatDoorRga
import Derived.Lib.AppendZeros
import Derived.Laws.AppendOwnNone
namespace Go.Proofs.YtbbaaaomncegiaaGreatDoor
open Go.RowKit Go.Proofs.Spn Go.Proofs.Rng

theorem spans_none {w : World} {l : List Sp} (h : Spans w none l) : l = [] := by
  cases l with
  | nil => rfl
  | cons x r => obtain ⟨b, off, e, _⟩ := h 0 x rfl; cases e
theorem run_append_spans (w : World) (base : Nat) (v : Value) (l0 : List Sp) (hown : w.ownsRow base 24 2 v l0.length (flatS l0)) (A : Option Addr) (c : Nat) (ys : List Sp) (hA : Spans w A ys)
    (hn : l0.length + ys.length ≤ 2000000) (hb : base ≤ w.heap.size) :
    ∃ v' w', (Builtin.append_ #[22, 22] 22 #[v, .slice A ys.length c]).run Tryz.prog w = .ok v' w' ∧ w'.ownsRow base 24 2 v' (l0 ++ ys).length (flatS (l0 ++ ys)) ∧ w.grownBy w' v.ownBlock := by
  obtain ⟨i0, hi, hz0, hz1, hz2⟩ := info_parts Tryz.infoSpan
  cases A with
  | none =>
    obtain rfl := spans_none hA
    refine ⟨v, w, ?_, by simpa using hown, World.grownBy.refl _ _⟩
    have ht := Tryz.underlying22
    rcases hown.2 with ⟨rfl, h0⟩ | ⟨g, cap, cur, rfl, _, _, hnc, _⟩
    · simp [Builtin.append_, run_underlying ht, sizeOf, typeInfo, hi, Builtin.lenOf, Builtin.firstCells]
    · simp [Builtin.append_, run_underlying ht, sizeOf, typeInfo, hi, Builtin.lenOf, Builtin.firstCells, hnc, storeCells]
  | some a =>
    obtain ⟨v', w', h1, h2, h3, _⟩ := run_append_own (P := Tryz.prog) w base 22 22 24 i0 _ 2 16 Tryz.underlying22 hi hz0 hz1 hz2 rfl (by decide) v l0.length (flatS l0) hown a ys.length c (flatS ys)
      (flatS_length ys) hA.add (flatS_cells ys) (by unfold maxLen; omega) (by omega) hb
    exact ⟨v', w', h1, by rw [flatS_append, List.length_append]; exact h2, h3⟩
theorem wpList_append_spans {ops : Array Oper} {rest : List Oper} {o : Oper} {a : Act} {w : World} {Q : Exit → Act → World → Prop} (hgd : Region.wanted o (yielded ops a.tmps) = true) (s x : Operand)
    (ho : o.op = .call { callee := .builtin .append, args := #[s, x], argTypes := #[22, 22] }) (hty : o.type = 22)
    (base : Nat) (v : Value) (l0 : List Sp) (hs : a.eval s = v) (hown : w.ownsRow base 24 2 v l0.length (flatS l0)) (A : Option Addr) (n c : Nat) (ys : List Sp) (hx : a.eval x = .slice A n c) (hnl : n = ys.length) (hA : Spans w A ys)
    (hn : l0.length + ys.length ≤ 2000000) (hb : base ≤ w.heap.size)
    (h : ∀ v' w', w'.ownsRow base 24 2 v' (l0 ++ ys).length (flatS (l0 ++ ys)) → w.grownBy w' v.ownBlock → wpList Tryz.prog ops Q rest (a.put o.dst v') w') : wpList Tryz.prog ops Q (o :: rest) a w := by
  subst hnl
  obtain ⟨v', w', hr, h1, h2⟩ := run_append_spans w base v l0 hown A c ys hA hn hb
  refine wpList_step fun K hK => ?_
  rw [if_pos hgd]
  exact Lib.wp_append_run w s x _ _ ho v _ hs hx v' w' (by rw [hty]; exact hr) (hK _ _ (h v' w' h1 h2))
theorem spans_new (w : World) (l : List Sp) : Spans (w.alloc (.cells (flatS l).toArray 24)) (some ⟨w.heap.size, 0, none⟩) l := fun i x hx => by
  obtain ⟨f1, f2⟩ := flatS_one l i x hx
  refine ⟨w.heap.size, 0, rfl, by simp, ?_, ?_⟩
  · rw [Nat.zero_add]; simpa using f1
  · rw [Nat.zero_add]; simpa using f2

/-! ### Has -/
theorem idx_any (p : Sp → Bool) (l : List Sp) : decide (0 ≤ idxS p l) = l.any p := by
  unfold idxS
  cases h : l.findIdx? p with
  | none =>
    rw [List.findIdx?_eq_none_iff] at h
    rw [show l.any p = false from List.any_eq_false.2 fun x hx => by rw [h x hx]; simp]
    rfl
  | some k =>
    obtain ⟨hl, hp, _⟩ := List.findIdx?_eq_some_iff_getElem.1 h
    rw [show l.any p = true from List.any_eq_true.2 ⟨l[k], List.getElem_mem hl, hp⟩]
    simp
set_option maxHeartbeats 2000000 in
theorem contains1_any (g cb : Nat) (p : Sp → Bool) (eg : ∀ args w, (callFunc g args).run Tryz.prog w = .ok (.enter g args) w) (A : Option Addr) (c : Nat) (xs : List Sp) (w : World) (hg : Tells1 g cb p w) (hA : Spans w A xs) (hn : xs.length ≤ 9223372036854775807) :
    Calls Tryz.prog 34 #[.slice A xs.length c, .func (.func g) #[] #[.pointer (some ⟨cb, 0, none⟩)]] w fun e w' => e = .returned (.bool (xs.any p)) ∧ Below w.heap.size w w' := by
  have hI := index1_any g cb p eg A c xs w hg hA hn
  rw [← idx_any]
  go_enter Tryz.func34, Tryz.ntmps34
  go_wp2_with (go_at_call 55; refine hI.mono ?_; rintro e w' ⟨rfl, hb⟩)
  go_ret
  exact ⟨rfl, hb⟩
theorem has1_tells (cb : Nat) (no : Int) (w0 : World) (hc : w0.cell? ⟨cb, 0, none⟩ = some (.int .i64 no)) : Tells1 35 cb (fun s => hasS s no) w0 := by
  intro x1 x2 W hB
  have c0 : W.cell? ⟨cb, 0, none⟩ = some (.int .i64 no) := (hB.cell (World.block_lt_of_cell? _ _ hc)).trans hc
  have c1 : ∀ o, (W.alloc o).cell? ⟨cb, 0, none⟩ = some (.int .i64 no) := fun o => (World.cell?_alloc_lt W o ⟨cb, 0, none⟩ (World.block_lt_of_cell? _ _ c0)).trans c0
  have ch := fun W => has_any x1 x2 no W
  go_enter Tryz.func35, Tryz.ntmps35
  go_wp2_with (go_at_call 36; refine (ch _).mono ?_; rintro e w' ⟨rfl, hb⟩)
  go_ret
  exact ⟨rfl, bt (bl (Below.refl _ _) _) hb⟩
set_option maxHeartbeats 2000000 in
theorem rhas_any (A : Option Addr) (c : Nat) (xs : List Sp) (no : Int) (w : World) (hA : Spans w A xs) (hn : xs.length ≤ 9223372036854775807) :
    Calls Tryz.prog 10 #[.slice A xs.length c, .int .i64 no] w fun e w' => e = .returned (.bool (hasL xs no)) ∧ Below w.heap.size w w' := by
  have eg : ∀ args w, (callFunc 35 args).run Tryz.prog w = .ok (.enter 35 args) w := enters_of Tryz.func35 (by kernel_rfl) rfl
  have EG := Lib.hid eg
  have HA := Lib.hid hA
  clear hA eg
  have cm := fun (W : World) (hb : Below w.heap.size w W) => may_any A c xs W (HA.out.below hb) hn
  have E0 : Hid (mayB xs = false → hasL xs no = false) := fun h => by unfold hasL; rw [h]; rfl
  have E2 : Hid (mayB xs = true → hasL xs no = xs.any fun s => hasS s no) := fun h => by unfold hasL; rw [h]; rfl
  generalize mayB xs = B at cm E0 E2
  have HB0 : Hid (∀ o, Below w.heap.size w (w.alloc o)) := fun o => bl (Below.refl _ _) o
  have CM := Lib.hid cm
  clear cm
  cases B with
  | false =>
    have E := Lib.hid (E0.out rfl)
    clear E2 E0
    go_enter Tryz.func10, Tryz.ntmps10
    go_wp2_with (go_at_call 24; refine (CM.out _ (HB0.out _)).mono ?_; rintro e w1 ⟨rfl, hb1⟩)
    go_ret
    exact ⟨by rw [E.out]; rfl, bt (HB0.out _) hb1⟩
  | true =>
    have E := Lib.hid (E2.out rfl)
    clear E2 E0
    go_enter Tryz.func10, Tryz.ntmps10
    go_wp2_with (go_at_call 24; refine (CM.out _ (HB0.out _)).mono ?_; rintro e w1 ⟨rfl, hb1⟩)
    have HB1 := Lib.hid (bt (HB0.out (.cells #[.int .i64 no] 3)) hb1)
    have hc : w1.cell? ⟨w.heap.size, 0, none⟩ = some (.int .i64 no) := (hb1.cell (p := ⟨w.heap.size, 0, none⟩) (by simp)).trans (by simp)
    have HT := Lib.hid (has1_tells w.heap.size no w1 hc)
    clear hb1 hc
    go_wp2_with (go_at_call 34; refine (contains1_any _ _ _ EG.out A c xs w1 HT.out (HA.out.below HB1.out) hn).mono ?_; rintro e w2 ⟨rfl, hb2⟩)
    go_ret
    exact ⟨by rw [E.out]; rfl, bt HB1.out hb2⟩

/-! ### each -/
/-- What is asked of the function value g that has captured one variable: wherever all that lay in w0 lies, it gives f's spans in memory of its own. -/
def Gives1 (g cb : Nat) (f : Sp → List Sp) (w0 : World) : Prop := ∀ (x1 x2 : Int) (W : World), Below w0.heap.size w0 W → Calls Tryz.prog g #[.agg #[.int .i64 x1, .int .i64 x2], .pointer (some ⟨cb, 0, none⟩)] W fun e w' =>
  ∃ v, e = .returned v ∧ w'.ownsRow W.heap.size 24 2 v (f (x1, x2)).length (flatS (f (x1, x2))) ∧ Below W.heap.size W w'
theorem flat_take_le (xs : List Sp) (f : Sp → List Sp) (K k : Nat) (h : ∀ x, x ∈ xs → (f x).length ≤ K) : ((xs.take k).flatMap f).length ≤ xs.length * K := by
  have h1 := flat_length (xs.take k) f K fun x hx => h x (List.mem_of_mem_take hx)
  have h2 : (xs.take k).length * K ≤ xs.length * K := Nat.mul_le_mul_right _ (List.length_take_le' _ _)
  omega
set_option maxHeartbeats 4000000 in
set_option maxRecDepth 100000 in
theorem each1_any (g cb : Nat) (f : Sp → List Sp) (eg : ∀ args w, (callFunc g args).run Tryz.prog w = .ok (.enter g args) w) (A : Option Addr) (c : Nat) (xs : List Sp) (w : World) (hg : Gives1 g cb f w) (hA : Spans w A xs) (K : Nat) (hK : ∀ x, x ∈ xs → (f x).length ≤ K) (hn : xs.length * K + K ≤ 2000000) (hl : xs.length ≤ 9223372036854775807) :
    Calls Tryz.prog 29 #[.slice A xs.length c, .func (.func g) #[] #[.pointer (some ⟨cb, 0, none⟩)]] w fun e w' =>
      ∃ v, e = .returned v ∧ w'.ownsRow w.heap.size 24 2 v (xs.flatMap f).length (flatS (xs.flatMap f)) ∧ Below w.heap.size w w' := by
  have HA := Lib.hid hA
  have HG := Lib.hid hg
  have EG := Lib.hid eg
  have HK := Lib.hid hK
  obtain ⟨R, hR⟩ : ∃ R, xs.flatMap f = R := ⟨_, rfl⟩
  rw [hR]
  have HR := Lib.hid hR
  clear hA hg eg hK hR
  go_enter Tryz.func29, Tryz.ntmps29
  go_wp2_with fail
  go_loopw [5, 10] (fun v i wr => ∃ (k : Nat), k ≤ xs.length ∧ i = .int .i64 k ∧ Hid (wr.ownsRow w.heap.size 24 2 v ((xs.take k).flatMap f).length (flatS ((xs.take k).flatMap f))) ∧ Hid (Below w.heap.size w wr))
    (fun _ i _ => xs.length - (intOf i).toNat)
  case atStart => exact ⟨0, Nat.zero_le _, rfl, World.ownsRow_nil _ _ _ _, Below.refl _ _⟩
  case round =>
    obtain ⟨k, hk, rfl, HO, HB⟩ := hrel
    by_cases hlt : k < xs.length
    · obtain ⟨⟨x1, x2⟩, hx⟩ : ∃ x, xs[k]? = some x := ⟨_, List.getElem?_eq_getElem hlt⟩
      obtain ⟨b, off, rfl, hb, c1, c2⟩ := HA.out.below HB.out k _ hx
      simp only at c1 c2
      have hlt' : (k : Int) < (xs.length : Int) := by omega
      have HS : Hid ((xs.take (k + 1)).flatMap f = (xs.take k).flatMap f ++ f (x1, x2)) := by
        show _ = _
        rw [take_snoc xs k _ hx, List.flatMap_append]
        simp
      have hl1 := flat_take_le xs f K k HK.out
      have hl2 := HK.out _ (List.mem_iff_getElem?.2 ⟨k, hx⟩)
      have HBW := Lib.hid (bl HB.out (.cells #[.int .i64 x1, .int .i64 x2] 24))
      have hcall := HG.out x1 x2 _ HBW.out
      have eg := EG.out
      generalize f (x1, x2) = fx at *
      generalize (xs.take k).flatMap f = acc at *
      clear hx
      go_wp2_with (first
        | (go_at_fn g; refine hcall.mono ?_; rintro e w4 ⟨v4, rfl, hown4, hb4⟩; obtain ⟨A4, c4, rfl, hS4, _⟩ := Spans.of_own hown4; have HO4 := Lib.hid (ob (HO.out.alloc _) hb4); have HB4 := Lib.hid (bt HBW.out hb4); have HS4 := Lib.hid hS4; clear hown4 hb4 hS4 hcall)
        | (at_builtin; refine wpList_append_spans (by rfl) _ _ (by rfl) (by rfl) w.heap.size _ acc (by rfl) HO4.out A4 fx.length c4 fx (by rfl) rfl HS4.out (by omega) HB4.out.size ?_))
      intro v5 w5 own5 grow5
      have HB5 := Lib.hid (HB4.out.grown grow5 HB4.out.size fun j hj => (HO4.out.lt j hj).1)
      have HO5 : Hid (w5.ownsRow w.heap.size 24 2 v5 ((xs.take (k + 1)).flatMap f).length (flatS ((xs.take (k + 1)).flatMap f))) := by
        show World.ownsRow _ _ _ _ _ _ _
        rw [HS.out]
        first | exact own5 | (rw [List.length_append]; exact own5)
      clear own5 grow5
      go_wp2_with fail
      go_roundw
      case rel => exact ⟨k + 1, by omega, by go_num, HO5, HB5⟩
      case measure => simp [intOf]; omega
    · have hlt' : ¬ (k : Int) < (xs.length : Int) := by omega
      have e : xs.take k = xs := List.take_of_length_le (by omega)
      have ho := HO.out
      rw [e, HR.out] at ho
      have HO2 := Lib.hid ho
      clear e ho HO
      go_wp2_with fail
      go_ret
      exact ⟨u5, rfl, HO2.out, HB.out⟩
end Go.Proofs.YtbbaaaomncegiaaGreatDoor
