/-
  gatefoldref29.Parse, a part: where the page at hand lies, and how the pages lie when it is stored back with a part more.
-/
import Derived.Test.YtloecpgfohhmlaaDoorPvd
import Derived.Test.YtloecpgfohhmlaaDoorPue
namespace Go.Proofs.YtloecpgfohhmlaaDoor
open Go.RowKit Go.Proofs.Prn

/-- Where the page at hand lies. -/
theorem Rp.part {w : World} {base last k : Nat} {v : Sl} {pre : List Page} {p : Page} (h : Rp w base v (pre ++ [p]) last) (hk : ¬ k < last) (hb : base ≤ w.heap.size) :
    ∃ (gp c : Nat) (rpre : List Raw) (r : Raw) (B : Nat), v = ⟨some ⟨gp, 0, none⟩, rpre.length + 1, c⟩ ∧ rpre.length = pre.length ∧ base ≤ B ∧ B ≤ w.heap.size ∧
      w.ownsRow base 37 5 (.slice (some ⟨gp, 0, none⟩) (rpre.length + 1) c) (rpre.length + 1) (flatL encR (rpre ++ [r])) ∧ PgsA w base B rpre pre ∧ Cur w base B k r p := by
  obtain ⟨rs, hown, hl, hc⟩ := h
  rcases hc with hc | ⟨B, rpre, r, pre', p', rfl, e2, h1, h2, h3, h4⟩
  · simp at hc
  · obtain ⟨rfl, e3⟩ := List.append_inj' e2 rfl
    injection e3 with e3
    subst e3
    have hlp : rpre.length = pre.length := by simpa using hl
    obtain ⟨B', hB1, hB2, hB3, hcur⟩ : ∃ B', base ≤ B' ∧ B ≤ B' ∧ B' ≤ w.heap.size ∧ Cur w base B' k r p := by
      rcases Nat.eq_or_lt_of_le (Nat.le_of_not_lt hk) with e | e
      · subst e; exact ⟨B, h1, Nat.le_refl _, h2, h4⟩
      · exact ⟨w.heap.size, by omega, h2, Nat.le_refl _, h4.rise h1 h2 e⟩
    have hv : v.n = (pre ++ [p]).length := own_n hown
    obtain ⟨g, cap, hvs, hbg, _⟩ := hown.form (by simp)
    obtain ⟨A, n, c⟩ := v
    simp only at hv hvs
    have hvs' : (.slice A n c : Value) = .slice (some ⟨g, 0, none⟩) (rpre.length + 1) cap := by rw [hlp]; simpa using hvs
    injection hvs' with e1 e2 e3
    subst e1 e2 e3
    refine ⟨g, c, rpre, r, B', rfl, hlp, hB1, hB3, ?_, h3.more hB2, hcur⟩
    have := hown
    rw [List.length_append, List.length_singleton, ← hlp] at this
    exact this

/-- The page at hand has a part more. -/
theorem Rp.added {w w' : World} {base B k gp c : Nat} {pre : List Page} {p : Page} {rpre : List Raw} {r : Raw} {s : Sl} (hlp : rpre.length = pre.length) (hB : base ≤ B) (hBs : B ≤ w.heap.size)
    (h3 : PgsA w base B rpre pre) (hcur : Cur w base B k r p) (hk : k < 3) (f : Frag) (hs : w'.ownsRow B 39 7 s.v ((pget p k).length + 1) (flatL encF (pget p k) ++ encF f)) (hkx : KX (r.get k).v.ownBlock w w')
    (ho : w'.ownsRow base 37 5 (.slice (some ⟨gp, 0, none⟩) (rpre.length + 1) c) (rpre.length + 1) (flatL encR (rpre ++ [r.put s k]))) :
    Rp w' base ⟨some ⟨gp, 0, none⟩, rpre.length + 1, c⟩ (pre ++ [addPart p f k]) k := by
  refine ⟨rpre ++ [r.put s k], ?_, by simp [hlp], .inr ⟨B, rpre, _, pre, _, rfl, rfl, hB, Nat.le_trans hBs hkx.size, ?_, hcur.addx hk f hkx hs⟩⟩
  · rw [List.length_append, List.length_singleton, ← hlp]; exact ho
  · exact h3.kx hkx fun g' e' => (((hcur.2.2 k hk).2.1 rfl).lt g' e').1

theorem flatR_len (rpre : List Raw) : (flatL encR rpre).length = rpre.length * 5 := flatL_length encR_len rpre

/-- Five cells stored. -/
def setFive (w : World) (g j : Nat) (u0 u1 u2 u3 u4 : Value) : World :=
  ((((w.setCell ⟨g, j, none⟩ u0).setCell ⟨g, j + 1, none⟩ u1).setCell ⟨g, j + 2, none⟩ u2).setCell ⟨g, j + 3, none⟩ u3).setCell ⟨g, j + 4, none⟩ u4

theorem own_five {w : World} {base g c : Nat} {rpre : List Raw} {r : Raw} (h : w.ownsRow base 37 5 (.slice (some ⟨g, 0, none⟩) (rpre.length + 1) c) (rpre.length + 1) (flatL encR (rpre ++ [r]))) (q : Raw) :
    (setFive w g (rpre.length * 5) (.int .i64 q.no) (.int .i64 q.kind) q.h.v q.f.v q.l.v).ownsRow base 37 5 (.slice (some ⟨g, 0, none⟩) (rpre.length + 1) c) (rpre.length + 1) (flatL encR (rpre ++ [q])) := by
  have h5 := (((((h.stored (rpre.length * 5) (.int .i64 q.no)).1.stored (rpre.length * 5 + 1) (.int .i64 q.kind)).1.stored (rpre.length * 5 + 2) q.h.v).1.stored (rpre.length * 5 + 3) q.f.v).1.stored (rpre.length * 5 + 4) q.l.v).1
  have e : (((((flatL encR (rpre ++ [r])).set (rpre.length * 5) (.int .i64 q.no)).set (rpre.length * 5 + 1) (.int .i64 q.kind)).set (rpre.length * 5 + 2) q.h.v).set (rpre.length * 5 + 3) q.f.v).set (rpre.length * 5 + 4) q.l.v = flatL encR (rpre ++ [q]) := by
    rw [flatL_append, flatL_append, flatL_one_, flatL_one_, ← flatR_len]
    simp [List.set_append_right, encR]
  rw [← e]
  exact h5
theorem KF.five {w w' : World} (h : KF w w') {g : Nat} {cs : Array Value} (hb : Blk w' g 37 cs) (j : Nat) (u0 u1 u2 u3 u4 : Value) : KF w (setFive w' g j u0 u1 u2 u3 u4) :=
  (((((h.setCell hb (by decide) u0).setCell (hb.set_ j u0) (by decide) u1).setCell ((hb.set_ j u0).set_ (j + 1) u1) (by decide) u2).setCell (((hb.set_ j u0).set_ (j + 1) u1).set_ (j + 2) u2) (by decide) u3).setCell ((((hb.set_ j u0).set_ (j + 1) u1).set_ (j + 2) u2).set_ (j + 3) u3) (by decide) u4)
theorem own_five_other {w : World} {base size n : Nat} {e : TypeId} {v : Value} {xs : List Value} (h : w.ownsRow base e size v n xs) {g : Nat} {cs : Array Value} (hb : Blk w g 37 cs) (ht : e ≠ 37) (j : Nat) (u0 u1 u2 u3 u4 : Value) :
    (setFive w g j u0 u1 u2 u3 u4).ownsRow base e size v n xs :=
  own_set (own_set (own_set (own_set (own_set h hb ht u0) (hb.set_ j u0) ht u1) ((hb.set_ j u0).set_ (j + 1) u1) ht u2) (((hb.set_ j u0).set_ (j + 1) u1).set_ (j + 2) u2) ht u3) ((((hb.set_ j u0).set_ (j + 1) u1).set_ (j + 2) u2).set_ (j + 3) u3) ht u4
theorem Below.five {base : Nat} {w w' : World} (h : Below base w w') {g : Nat} (hg : base ≤ g) (j : Nat) (u0 u1 u2 u3 u4 : Value) : Below base w (setFive w' g j u0 u1 u2 u3 u4) :=
  ((((h.setCell (p := ⟨g, j, none⟩) hg u0).setCell (p := ⟨g, j + 1, none⟩) hg u1).setCell (p := ⟨g, j + 2, none⟩) hg u2).setCell (p := ⟨g, j + 3, none⟩) hg u3).setCell (p := ⟨g, j + 4, none⟩) hg u4

/-- Where the page at hand lies, cell by cell. -/
theorem cells_five {w : World} {base g c : Nat} {rpre : List Raw} {r : Raw} (h : w.ownsRow base 37 5 (.slice (some ⟨g, 0, none⟩) (rpre.length + 1) c) (rpre.length + 1) (flatL encR (rpre ++ [r]))) :
    w.cell? ⟨g, rpre.length * 5, none⟩ = some (.int .i64 r.no) ∧ w.cell? ⟨g, rpre.length * 5 + 1, none⟩ = some (.int .i64 r.kind) ∧ w.cell? ⟨g, rpre.length * 5 + 2, none⟩ = some r.h.v ∧ w.cell? ⟨g, rpre.length * 5 + 3, none⟩ = some r.f.v ∧ w.cell? ⟨g, rpre.length * 5 + 4, none⟩ = some r.l.v := by
  have hx : (rpre ++ [r])[rpre.length]? = some r := by simp
  have at_ : ∀ c v, c < 5 → (encR r)[c]? = some v → w.cell? ⟨g, rpre.length * 5 + c, none⟩ = some v := fun c v hc hv =>
    (h.cellAt _ (by omega)).trans (flatL_at encR_len _ _ r hx c v hv)
  exact ⟨at_ 0 _ (by omega) rfl, at_ 1 _ (by omega) rfl, at_ 2 _ (by omega) rfl, at_ 3 _ (by omega) rfl, at_ 4 _ (by omega) rfl⟩

/-- A part behind an own row of parts. -/
theorem wpList_append_part {ops : Array Oper} {rest : List Oper} {o : Oper} {a : Act} {w : World} {Q : Exit → Act → World → Prop} (hgd : Region.wanted o (yielded ops a.tmps) = true) (s x : Operand)
    (ho : o.op = .call { callee := .builtin .append, args := #[s, x], argTypes := #[35, 35] }) (hty : o.type = 35)
    (base : Nat) (s0 : Sl) (l0 : List Frag) (hs : a.eval s = s0.v) (hown : w.ownsRow base 39 7 s0.v l0.length (flatL encF l0)) (A : Option Addr) (f : Frag) (hx : a.eval x = .slice A 1 1) (hA : RowAt encF 7 w A [f])
    (hn : l0.length ≤ 100000) (hb : base ≤ w.heap.size)
    (h : ∀ (s' : Sl) w', w'.ownsRow base 39 7 s'.v (l0.length + 1) (flatL encF l0 ++ encF f) → w.grownBy w' s0.v.ownBlock → wpList Tryd.prog ops Q rest (a.put o.dst s'.v) w') : wpList Tryd.prog ops Q (o :: rest) a w := by
  obtain ⟨v', w', hr, h1, h2⟩ := run_append_frags w base s0.v l0.length (flatL encF l0) hown A 1 [f] hA (by simp; omega) hb
  rw [flatL_one_] at h1
  obtain ⟨A', c', rfl, _, _⟩ := RowAt.of_own encF_len (own_snoc h1)
  rw [List.length_append] at hr h1
  refine wpList_step fun K hK => ?_
  rw [if_pos hgd]
  exact Lib.wp_append_run w s x _ _ ho s0.v _ hs hx (⟨A', l0.length + 1, c'⟩ : Sl).v w' (by rw [hty]; exact hr) (hK _ _ (h ⟨A', l0.length + 1, c'⟩ w' h1 h2))

/-- The seven numbers of a part, cell by cell. -/
theorem seven_cells {w : World} {B : Option Addr} {a0 a1 a2 a3 a4 a5 a6 : Int} (h : RowAt encI 1 w B [a0, a1, a2, a3, a4, a5, a6]) : ∃ bb oo, B = some ⟨bb, oo, none⟩ ∧ bb < w.heap.size ∧
    w.cell? ⟨bb, oo, none⟩ = some (.int .i64 a0) ∧ w.cell? ⟨bb, oo + 1, none⟩ = some (.int .i64 a1) ∧ w.cell? ⟨bb, oo + 2, none⟩ = some (.int .i64 a2) ∧ w.cell? ⟨bb, oo + 3, none⟩ = some (.int .i64 a3) ∧ w.cell? ⟨bb, oo + 4, none⟩ = some (.int .i64 a4) ∧ w.cell? ⟨bb, oo + 5, none⟩ = some (.int .i64 a5) ∧ w.cell? ⟨bb, oo + 6, none⟩ = some (.int .i64 a6) := by
  obtain ⟨bb, oo, rfl, hbb, h0⟩ := h 0 a0 rfl
  have at_ : ∀ i x, [a0, a1, a2, a3, a4, a5, a6][i]? = some x → w.cell? ⟨bb, oo + i, none⟩ = some (.int .i64 x) := fun i x hx => by
    obtain ⟨b', o', e', _, h1⟩ := h i x hx
    injection e' with e'
    injection e' with e1 e2
    subst e1 e2
    have := h1 0 _ rfl
    simpa using this
  exact ⟨bb, oo, rfl, hbb, at_ 0 a0 rfl, at_ 1 a1 rfl, at_ 2 a2 rfl, at_ 3 a3 rfl, at_ 4 a4 rfl, at_ 5 a5 rfl, at_ 6 a6 rfl⟩
theorem seven_below {w W : World} {bb oo : Nat} {v0 v1 v2 v3 v4 v5 v6 : Value} (hbb : bb < w.heap.size)
    (h : w.cell? ⟨bb, oo, none⟩ = some v0 ∧ w.cell? ⟨bb, oo + 1, none⟩ = some v1 ∧ w.cell? ⟨bb, oo + 2, none⟩ = some v2 ∧ w.cell? ⟨bb, oo + 3, none⟩ = some v3 ∧ w.cell? ⟨bb, oo + 4, none⟩ = some v4 ∧ w.cell? ⟨bb, oo + 5, none⟩ = some v5 ∧ w.cell? ⟨bb, oo + 6, none⟩ = some v6) (hb : Below w.heap.size w W) :
    W.cell? ⟨bb, oo, none⟩ = some v0 ∧ W.cell? ⟨bb, oo + 1, none⟩ = some v1 ∧ W.cell? ⟨bb, oo + 2, none⟩ = some v2 ∧ W.cell? ⟨bb, oo + 3, none⟩ = some v3 ∧ W.cell? ⟨bb, oo + 4, none⟩ = some v4 ∧ W.cell? ⟨bb, oo + 5, none⟩ = some v5 ∧ W.cell? ⟨bb, oo + 6, none⟩ = some v6 := by
  obtain ⟨h0, h1, h2, h3, h4, h5, h6⟩ := h
  exact ⟨(hb.cell (p := ⟨bb, _, none⟩) hbb).trans h0, (hb.cell (p := ⟨bb, _, none⟩) hbb).trans h1, (hb.cell (p := ⟨bb, _, none⟩) hbb).trans h2, (hb.cell (p := ⟨bb, _, none⟩) hbb).trans h3, (hb.cell (p := ⟨bb, _, none⟩) hbb).trans h4, (hb.cell (p := ⟨bb, _, none⟩) hbb).trans h5, (hb.cell (p := ⟨bb, _, none⟩) hbb).trans h6⟩
end Go.Proofs.YtloecpgfohhmlaaDoor
