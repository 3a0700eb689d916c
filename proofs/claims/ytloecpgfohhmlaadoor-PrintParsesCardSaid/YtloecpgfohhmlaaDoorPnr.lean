/-
  (*print.reader).take at whatever a line tells; print.Parse at every text of at most 5000 bytes: the pages, 0 and no error; or none, the line and the error. New memory alone.
-/
import Derived.Test.YtloecpgfohhmlaaDoorPnh
namespace Go.Proofs.YtloecpgfohhmlaaDoor
open Go.RowKit Go.Proofs.Prn

/-- What the reader holds: pages, and of which kind the last part was. -/
def Rd (w : World) (base R : Nat) (ps : List Page) (last : Nat) : Prop :=
  ∃ (v : Sl) (rs : List Raw), Blk w R 62 #[v.v, .int .i64 last] ∧ base ≤ R ∧ w.ownsRow base 37 5 v.v ps.length (flatL encR rs) ∧ rs.length = ps.length ∧
    (ps = [] ∨ ∃ (B : Nat) (rpre : List Raw) (r : Raw) (pre : List Page) (p : Page), rs = rpre ++ [r] ∧ ps = pre ++ [p] ∧ base ≤ B ∧ B ≤ w.heap.size ∧ PgsA w base B rpre pre ∧ Cur w base B last r p)
def Small (N : Nat) (ps : List Page) : Prop := ps.length ≤ N ∧ ∀ p ∈ ps, ∀ k, (pget p k).length ≤ N
theorem Small.nil (N : Nat) : Small N [] := ⟨Nat.zero_le _, fun p hp => by cases hp⟩
theorem Small.take {N : Nat} {ps : List Page} {last : Nat} {x : Tell} {st : St} (h : Small N ps) (ht : takeP (ps, last) x = some st) : Small (N + 1) st.1 := by
  cases x with
  | wrong => cases ht
  | page a b =>
    simp only [takeP, Option.some.injEq] at ht
    subst ht
    refine ⟨by have := h.1; simp; omega, fun p hp k => ?_⟩
    rcases List.mem_append.1 hp with hp | hp
    · have := h.2 p hp k; omega
    · obtain rfl := List.mem_singleton.1 hp
      match k with
      | 0 => simp [pget]
      | 1 => simp [pget]
      | k + 2 => simp [pget]
  | part f j =>
    rcases List.eq_nil_or_concat ps with rfl | ⟨pre, p, rfl⟩
    · cases ht
    · rw [List.concat_eq_append] at *
      rw [takeP_part] at ht
      split at ht
      · cases ht
      · simp only [Option.some.injEq] at ht
        subst ht
        refine ⟨by have := h.1; simp at this ⊢; omega, fun q hq k => ?_⟩
        rcases List.mem_append.1 hq with hq | hq
        · have := h.2 q (by simp [hq]) k; omega
        · obtain rfl := List.mem_singleton.1 hq
          have := h.2 p (by simp) k
          match j with
          | 0 => match k with
            | 0 => simp [pget, addPart] at this ⊢; omega
            | 1 => simp [pget, addPart] at this ⊢; omega
            | k + 2 => simp [pget, addPart] at this ⊢; omega
          | 1 => match k with
            | 0 => simp [pget, addPart] at this ⊢; omega
            | 1 => simp [pget, addPart] at this ⊢; omega
            | k + 2 => simp [pget, addPart] at this ⊢; omega
          | j + 2 => match k with
            | 0 => simp [pget, addPart] at this ⊢; omega
            | 1 => simp [pget, addPart] at this ⊢; omega
            | k + 2 => simp [pget, addPart] at this ⊢; omega

theorem own_n {w : World} {base size n : Nat} {e : TypeId} {s : Sl} {xs : List Value} (h : w.ownsRow base e size s.v n xs) : s.n = n := by
  rcases h.2 with ⟨hv, h0⟩ | ⟨g, cap, cur, hv, _⟩
  · injection hv with _ h1 _; omega
  · injection hv
theorem PgsA.snoc {w : World} {base B : Nat} {rs : List Raw} {ps : List Page} {r : Raw} {p : Page} (h : PgsA w base B rs ps) (hp : PgA w base B r p) : PgsA w base B (rs ++ [r]) (ps ++ [p]) := by
  refine ⟨by rw [List.length_append, List.length_append, h.1]; rfl, fun i r' p' h1 h2 => ?_⟩
  rcases Nat.lt_trichotomy i rs.length with hl | hl | hl
  · rw [List.getElem?_append_left hl] at h1
    rw [List.getElem?_append_left (by rw [← h.1]; exact hl)] at h2
    exact h.2 i r' p' h1 h2
  · subst hl
    rw [List.getElem?_append_right (Nat.le_refl _), Nat.sub_self] at h1
    rw [h.1, List.getElem?_append_right (Nat.le_refl _), Nat.sub_self] at h2
    simp at h1 h2
    subst h1 h2
    exact hp
  · rw [List.getElem?_eq_none (by simp; omega)] at h1; cases h1
theorem Rd.all {w : World} {base last : Nat} {ps : List Page} {rs : List Raw} (hl : rs.length = ps.length)
    (h : ps = [] ∨ ∃ (B : Nat) (rpre : List Raw) (r : Raw) (pre : List Page) (p : Page), rs = rpre ++ [r] ∧ ps = pre ++ [p] ∧ base ≤ B ∧ B ≤ w.heap.size ∧ PgsA w base B rpre pre ∧ Cur w base B last r p) : PgsA w base w.heap.size rs ps := by
  rcases h with rfl | ⟨B, rpre, r, pre, p, rfl, rfl, h1, h2, h3, h4⟩
  · obtain rfl := List.eq_nil_of_length_eq_zero hl
    exact ⟨rfl, fun i r p h => by simp at h⟩
  · exact (h3.more h2).snoc (h4.done h1 h2)
theorem FrA.at' {w : World} {base B : Nat} {r : Raw} {p : Page} (h : PgA w base B r p) : PgAt w r p := ⟨h.1, h.2.1, (h.2.2 0 (by omega)).at_, (h.2.2 1 (by omega)).at_, (h.2.2 2 (by omega)).at_⟩
theorem pages_of {w : World} {base B n : Nat} {v : Sl} {rs : List Raw} {ps : List Page} (h : w.ownsRow base 37 5 v.v n (flatL encR rs)) (hn : rs.length = n) (hp : PgsA w base B rs ps) : v.n = ps.length ∧ PagesAt w v.A ps := by
  subst hn
  obtain ⟨A, c, hv, hA, _⟩ := RowAt.of_own encR_len h
  injection hv with h1 h2 h3
  exact ⟨h2.trans hp.1, rs, hp.1, by rw [h1]; exact hA, fun i r p hr hq => FrA.at' (hp.2 i r p hr hq)⟩

theorem take_any (R base N last : Nat) (ps : List Page) (x : Tell) (w : World) (h : Rd w base R ps last) (hb : base ≤ w.heap.size) (hN : Small N ps) (hN' : N ≤ 1000000) (hx : ∀ f k, x = .part f k → k < 3) :
    Calls Tryd.prog 25 #[.pointer (some ⟨R, 0, none⟩), tellV x] w fun e w' => Below base w w' ∧ (takeP (ps, last) x = none → e = .returned (.bool false)) ∧
      ∀ st, takeP (ps, last) x = some st → e = .returned (.bool true) ∧ Rd w' base R st.1 st.2 := by
  obtain ⟨v, rs, hR, hbR, hown, hl, hc⟩ := h
  have hall := Rd.all hl hc
  cases x with
  | wrong => exact (take_wrong R w).mono fun e w' ⟨he, hbl⟩ => ⟨hbl.mono hb, fun _ => he, fun st hst => (by cases hst)⟩
  | page a b =>
    rw [← hl] at hown
    refine (take_page R base v last a b rs w hR hbR hown (by have := hN.1; omega)).mono fun e w' ⟨v', he, hR', hown', hk, hbl⟩ => ⟨hbl, fun hn => (by cases hn), fun st hst => ?_⟩
    simp only [takeP, Option.some.injEq] at hst
    subst hst
    refine ⟨he, v', rs ++ [⟨a, b, Sl.nil, Sl.nil, Sl.nil⟩], hR', hbR, ?_, by simp [hl], .inr ⟨w'.heap.size, rs, _, ps, _, rfl, rfl, ?_, Nat.le_refl _, (hall.kf hk).more hk.size, Cur.new _ _ _ _ _⟩⟩
    · rw [List.length_append, ← hl]; exact hown'
    · have := hk.size; omega
  | part f k =>
    have hk3 := hx f k rfl
    rcases hc with rfl | ⟨B, rpre, r, pre, p, rfl, rfl, h1, h2, h3, h4⟩
    · have hv : v.n = 0 := own_n hown
      exact (take_empty R v (.int .i64 last) f k w hR hv).mono fun e w' ⟨he, hbl⟩ => ⟨hbl.mono hb, fun _ => he, fun st hst => (by cases hst)⟩
    · rw [takeP_part]
      have hv : v.n = (pre ++ [p]).length := own_n hown
      by_cases hlt : k < last
      · rw [if_pos hlt]
        exact (take_low R v last f k w hR (by rw [hv]; simp) hlt).mono fun e w' ⟨he, hbl⟩ => ⟨hbl.mono hb, fun _ => he, fun st hst => (by cases hst)⟩
      · rw [if_neg hlt]
        have hlp : rpre.length = pre.length := by simpa using hl
        -- the kind at hand begins, or goes on
        obtain ⟨B', hB1, hB2, hB3, hcur⟩ : ∃ B', base ≤ B' ∧ B ≤ B' ∧ B' ≤ w.heap.size ∧ Cur w base B' k r p := by
          rcases Nat.eq_or_lt_of_le (Nat.le_of_not_lt hlt) with e | e
          · subst e; exact ⟨B, h1, Nat.le_refl _, h2, h4⟩
          · exact ⟨w.heap.size, by omega, h2, Nat.le_refl _, h4.rise h1 h2 e⟩
        obtain ⟨g, cap, hvs, hbg, _⟩ := hown.form (by simp)
        obtain ⟨A, n, c⟩ := v
        simp only at hv hvs
        have hvs' : (.slice A n c : Value) = .slice (some ⟨g, 0, none⟩) (rpre.length + 1) cap := by rw [hlp]; simpa using hvs
        injection hvs' with e1 e2 e3
        subst e1 e2 e3
        have hown' : w.ownsRow base 37 5 (.slice (some ⟨g, 0, none⟩) (rpre.length + 1) c) (rpre.length + 1) (flatL encR (rpre ++ [r])) := by
          have := hown
          rw [List.length_append, List.length_singleton, ← hlp] at this
          exact this
        have hn2 := hN.2 p (by simp) k
        have hnp := hN.1
        simp at hnp
        refine (take_part_k k hk3 R base B' g c rpre.length last (r.get k) (pget p k).length (flatL encF (pget p k)) f (flatL encR (rpre ++ [r])) w hR hbR hown' (flat_get rpre r k hk3) (by omega) (by omega)
          ((hcur.2.2 k hk3).2.1 rfl) hB1 hB3 (by omega)).mono fun e w' ⟨s', he, hR', ho', hs', hkx, hbl⟩ => ⟨hbl, fun hn => (by cases hn), fun st hst => ?_⟩
        simp only [Option.some.injEq] at hst
        subst hst
        rw [flat_put rpre r s' k hk3] at ho'
        refine ⟨he, ⟨some ⟨g, 0, none⟩, rpre.length + 1, c⟩, rpre ++ [r.put s' k], hR', hbR, ?_, by simp [hlp], .inr ⟨B', rpre, _, pre, _, rfl, rfl, hB1, Nat.le_trans hB3 hkx.size, ?_, hcur.addx hk3 f hkx hs'⟩⟩
        · rw [List.length_append, List.length_singleton, ← hlp]; exact ho'
        · exact (h3.more hB2).kx hkx fun g' e' => (((hcur.2.2 k hk3).2.1 rfl).lt g' e').1
end Go.Proofs.YtloecpgfohhmlaaDoor
