/-
  How a slice of pages opens: to pages, their numbers ints, their rows no longer than what memory holds.
-/
import Derived.Test.YtloecpgfohhmlaaDoorOpg
import Derived.Test.YtloecpgfohhmlaaDoorPwe
namespace Go.Proofs.YtloecpgfohhmlaaDoor
open Go.ChangeShapes Go.WideShapes Go.RowKit Go.Deep Go.Joins Go.Proofs.Prn

theorem i64_of_wf {n : Int} (h : (Lit.int .i64 n).wf = true) : I64 n := by
  simp only [Lit.wf, Bool.and_eq_true, decide_eq_true_eq] at h
  exact ⟨h.1, h.2⟩
def fragOf : List Int → Frag
  | [a, b, c, d, e, f, g] => ⟨a, b, c, d, e, f, g⟩
  | _ => ⟨0, 0, 0, 0, 0, 0, 0⟩
theorem seven {l : List Int} (h : l.length = 7) : ∃ a b c d e f g, l = [a, b, c, d, e, f, g] := by
  match l, h with
  | [a, b, c, d, e, f, g], _ => exact ⟨a, b, c, d, e, f, g, rfl⟩
theorem fragOf_enc {l : List Int} (h : l.length = 7) : encF (fragOf l) = encN l := by
  obtain ⟨a, b, c, d, e, f, g, rfl⟩ := seven h
  rfl
theorem fragOf_64 {l : List Int} (h : l.length = 7) (hw : ∀ y, y ∈ l → (Lit.int .i64 y).wf = true) : F64 (fragOf l) := by
  obtain ⟨a, b, c, d, e, f, g, rfl⟩ := seven h
  intro n hn
  exact i64_of_wf (hw n hn)

section
variable {H : Type} {enc : TypeId × Value → H} {w : World} {base : Nat} {spare : Nat → Bool} {held : Bool}
theorem open_frags {fuel : Nat} {A : Option Addr} {len cap : Nat} {x : DataW H × List MemPlace} (h : DataW.trod enc Tryd.prog w base spare held fuel 35 [.slice A len cap] = some x) :
    ∃ xs : List Frag, xs.length = len ∧ (∀ y, y ∈ xs → F64 y) ∧ RowAt encF 7 w A xs := by
  obtain ⟨xs, hl, hw, hr, h1, h2, h3⟩ := open_rows (ti := 3) Tryd.underlying35 Tryd.underlying39 (by kernel_rfl) (by kernel_rfl) (fun i f hf => by
    match i, hf with
    | 0, hf => simp at hf; subst hf; rfl
    | 1, hf => simp at hf; subst hf; rfl
    | 2, hf => simp at hf; subst hf; rfl
    | 3, hf => simp at hf; subst hf; rfl
    | 4, hf => simp at hf; subst hf; rfl
    | 5, hf => simp at hf; subst hf; rfl
    | 6, hf => simp at hf; subst hf; rfl
    | i + 7, hf => simp at hf) Tryd.underlying3 (by decide) h
  refine ⟨xs.map fragOf, by simpa using hl, fun y hy => ?_, fun i y hy => ?_⟩
  · obtain ⟨l, hlm, rfl⟩ := List.mem_map.1 hy
    exact fragOf_64 (hw l hlm).1 (hw l hlm).2
  · rw [List.getElem?_map] at hy
    obtain ⟨l, hlx, rfl⟩ := Option.map_eq_some_iff.1 hy
    obtain ⟨b, off, e, hb, hc⟩ := hr i l hlx
    refine ⟨b, off, e, hb, fun c v hv => hc c v ?_⟩
    rw [fragOf_enc (hw l (List.mem_iff_getElem?.2 ⟨i, hlx⟩)).1] at hv
    exact hv
/-- What a slice weighs. -/
theorem slice_weight {t e : TypeId} {fuel : Nat} {A : Option Addr} {len cap : Nat} {x : DataW H × List MemPlace} (ht : Tryd.prog.underlying t = some (.slice e)) (h : DataW.trod enc Tryd.prog w base spare held fuel t [.slice A len cap] = some x)
    (hR : ∀ m ∈ x.1.weights Tryd.prog t, m ≤ reachBytes) : len * Tryd.prog.bytesOf e ≤ reachBytes := by
  rcases open_slice ht h with ⟨hcs, _⟩ | ⟨a, l, c, m, n, D, Pl, hcs, hb, hl, hm, hmm, hx, _⟩
  · simp at hcs
    obtain ⟨_, rfl, _⟩ := hcs
    simp
  · simp at hcs
    obtain ⟨rfl, rfl, rfl⟩ := hcs
    rw [hx] at hR
    simp only [DataW.weights, ht] at hR
    have := hR _ (List.mem_cons_self ..)
    simp only [List.length_map, List.length_range] at this
    refine Nat.le_trans (Nat.mul_le_mul_right _ ?_) this
    omega
theorem open_slv {t e : TypeId} {fuel : Nat} {v : Value} {x : DataW H × List MemPlace} (ht : Tryd.prog.underlying t = some (.slice e)) (h : DataW.trod enc Tryd.prog w base spare held fuel t [v] = some x) : ∃ A n c, v = .slice A n c := by
  rcases open_slice ht h with ⟨hcs, _⟩ | ⟨a, l, c, m, n, D, Pl, hcs, _⟩
  · simp at hcs; exact ⟨_, _, _, hcs⟩
  · simp at hcs; exact ⟨_, _, _, hcs⟩
theorem Tryd.bytesFrag : Tryd.prog.bytesOf 39 = 56 := by kernel_rfl
def PgFit (p : Page) : Prop := ∀ k, (pget p k).length ≤ 140737488351232
set_option maxRecDepth 100000 in
/-- One page's cells. -/
theorem open_page {fuel : Nat} {cs : List Value} {x : DataW H × List MemPlace} (h : DataW.trod enc Tryd.prog w base spare held fuel 37 cs = some x) (hR : ∀ m ∈ x.1.weights Tryd.prog 37, m ≤ reachBytes) :
    ∃ (r : Raw) (p : Page), cs = encR r ∧ PgAt w r p ∧ P64 p ∧ PgFit p := by
  obtain ⟨xs, n, _, hx, hcl, hxl, hg⟩ := DataW.trod_struct Tryd.underlying37 h
  have hc5 : Tryd.prog.cellsOf 37 = 5 := by kernel_rfl
  have one : Tryd.prog.cellsOf 3 = 1 := by kernel_rfl
  have onS : Tryd.prog.cellsOf 35 = 1 := by kernel_rfl
  rw [hc5] at hcl
  have hx5 : xs.length = 5 := hxl
  clear hxl
  obtain ⟨c0, c1, c2, c3, c4, rfl⟩ : ∃ c0 c1 c2 c3 c4, cs = [c0, c1, c2, c3, c4] := by
    match cs, hcl with
    | [a, b, c, d, e], _ => exact ⟨a, b, c, d, e, rfl⟩
  obtain ⟨x0, x1, x2, x3, x4, rfl⟩ : ∃ x0 x1 x2 x3 x4, xs = [x0, x1, x2, x3, x4] := by
    match xs, hx5 with
    | [a, b, c, d, e], _ => exact ⟨a, b, c, d, e, rfl⟩
  have g0 : DataW.trod enc Tryd.prog w base spare held n 3 (([c0, c1, c2, c3, c4].drop 0).take (Tryd.prog.cellsOf 3)) = [x0, x1, x2, x3, x4][0]? := hg 0 _ rfl
  rw [one] at g0
  have g1 : DataW.trod enc Tryd.prog w base spare held n 3 (([c0, c1, c2, c3, c4].drop 1).take (Tryd.prog.cellsOf 3)) = [x0, x1, x2, x3, x4][1]? := hg 1 _ rfl
  rw [one] at g1
  have g2 : DataW.trod enc Tryd.prog w base spare held n 35 (([c0, c1, c2, c3, c4].drop 2).take (Tryd.prog.cellsOf 35)) = [x0, x1, x2, x3, x4][2]? := hg 2 _ rfl
  rw [onS] at g2
  have g3 : DataW.trod enc Tryd.prog w base spare held n 35 (([c0, c1, c2, c3, c4].drop 3).take (Tryd.prog.cellsOf 35)) = [x0, x1, x2, x3, x4][3]? := hg 3 _ rfl
  rw [onS] at g3
  have g4 : DataW.trod enc Tryd.prog w base spare held n 35 (([c0, c1, c2, c3, c4].drop 4).take (Tryd.prog.cellsOf 35)) = [x0, x1, x2, x3, x4][4]? := hg 4 _ rfl
  rw [onS] at g4
  simp only [List.drop_succ_cons, List.drop_zero, List.take_succ_cons, List.take_zero, List.getElem?_cons_zero, List.getElem?_cons_succ] at g0 g1 g2 g3 g4
  obtain ⟨y0, e0, _, w0⟩ := DataW.trod_int Tryd.underlying3 g0
  obtain ⟨y1, e1, _, w1⟩ := DataW.trod_int Tryd.underlying3 g1
  simp at e0 e1
  subst e0 e1
  obtain ⟨A2, n2, k2, rfl⟩ := open_slv Tryd.underlying35 g2
  obtain ⟨A3, n3, k3, rfl⟩ := open_slv Tryd.underlying35 g3
  obtain ⟨A4, n4, k4, rfl⟩ := open_slv Tryd.underlying35 g4
  obtain ⟨l2, rfl, q2, r2⟩ := open_frags g2
  obtain ⟨l3, rfl, q3, r3⟩ := open_frags g3
  obtain ⟨l4, rfl, q4, r4⟩ := open_frags g4
  have hwt : x.1.weights Tryd.prog 37 = x0.1.weights Tryd.prog 3 ++ (x1.1.weights Tryd.prog 3 ++ (x2.1.weights Tryd.prog 35 ++ (x3.1.weights Tryd.prog 35 ++ (x4.1.weights Tryd.prog 35 ++ [])))) := by
    rw [hx]
    simp only [DataW.weights, Tryd.underlying37]
    rfl
  rw [hwt] at hR
  have s2 := slice_weight Tryd.underlying35 g2 fun m hm => hR m (by simp [hm])
  have s3 := slice_weight Tryd.underlying35 g3 fun m hm => hR m (by simp [hm])
  have s4 := slice_weight Tryd.underlying35 g4 fun m hm => hR m (by simp [hm])
  rw [Tryd.bytesFrag] at s2 s3 s4
  have hre : reachBytes = 140737488351232 := rfl
  rw [hre] at s2 s3 s4
  refine ⟨⟨y0, y1, ⟨A2, l2.length, k2⟩, ⟨A3, l3.length, k3⟩, ⟨A4, l4.length, k4⟩⟩, ⟨y0, y1, l2, l3, l4⟩, rfl, ⟨rfl, rfl, ⟨rfl, r2⟩, ⟨rfl, r3⟩, ⟨rfl, r4⟩⟩, ⟨fun n hn => ?_, fun k f hf => ?_⟩, fun k => ?_⟩
  · simp only [Page.nums, List.mem_cons, List.not_mem_nil, or_false] at hn
    rcases hn with rfl | rfl
    · exact i64_of_wf w0
    · exact i64_of_wf w1
  · match k, hf with
    | 0, hf => exact q2 f hf
    | 1, hf => exact q3 f hf
    | k + 2, hf => exact q4 f hf
  · match k with
    | 0 => simp only [pget]; omega
    | 1 => simp only [pget]; omega
    | k + 2 => simp only [pget]; omega
theorem weightsAll_mem (P : Program) (e : TypeId) (l : List (DataW H)) (d : DataW H) (h : d ∈ l) : ∀ m ∈ d.weights P e, m ∈ DataW.weightsAll P e l := by
  induction l with
  | nil => cases h
  | cons a r ih =>
    intro m hm
    rw [DataW.weightsAll, List.mem_append]
    rcases List.mem_cons.1 h with rfl | h
    · exact .inl hm
    · exact .inr (ih h m hm)
theorem open_pages {fuel : Nat} {A : Option Addr} {len cap : Nat} {x : DataW H × List MemPlace} (h : DataW.trod enc Tryd.prog w base spare held fuel 22 [.slice A len cap] = some x) (hR : ∀ m ∈ x.1.weights Tryd.prog 22, m ≤ reachBytes) :
    ∃ ps : List Page, ps.length = len ∧ PagesAt w A ps ∧ (∀ p ∈ ps, P64 p) ∧ (∀ p ∈ ps, PgFit p) ∧ len ≤ maxLen := by
  have ht := Tryd.underlying22
  rcases open_slice ht h with ⟨hcs, _⟩ | ⟨a, l, c, m, n, D, Pl, hcs, hb, hl, hm, hmm, hx, hi⟩
  · simp at hcs
    obtain ⟨rfl, rfl, rfl⟩ := hcs
    exact ⟨[], rfl, PagesAt.nil _ _, fun p hp => (by cases hp), fun p hp => (by cases hp), Nat.zero_le _⟩
  · simp at hcs
    obtain ⟨rfl, rfl, rfl⟩ := hcs
    have hlm : len ≤ m := by rw [hmm]; split <;> omega
    have hc5 : Tryd.prog.cellsOf 37 = 5 := by kernel_rfl
    rw [hx] at hR
    simp only [DataW.weights, ht] at hR
    have hp : ∀ i, i < len → ∃ q : Raw × Page, PgAt w q.1 q.2 ∧ P64 q.2 ∧ PgFit q.2 ∧ ∀ j v, (encR q.1)[j]? = some v → w.cell? (a.add (i * 5 + j)) = some v := fun i hil => by
      obtain ⟨cs', hcc, htt⟩ := hi i (by omega)
      obtain ⟨r, p, e, h1, h2, h3⟩ := open_page htt fun q hq => hR q (List.mem_cons_of_mem _ (List.mem_append_left _ (weightsAll_mem _ _ _ (D i) (List.mem_map.2 ⟨i, List.mem_range.2 hil, rfl⟩) q hq)))
      refine ⟨(r, p), h1, h2, h3, fun j v hv => ?_⟩
      obtain ⟨_, hcl, hat⟩ := World.cells?_some hcc
      subst e
      have hj : j < 5 := by
        have := (List.getElem?_eq_some_iff.1 hv).1
        rwa [encR_len] at this
      have := hat j (by rw [hc5]; exact hj)
      rw [Go.Deep.add_add, hc5] at this
      rw [this, hv]
    have : Inhabited (Raw × Page) := ⟨(⟨0, 0, Sl.nil, Sl.nil, Sl.nil⟩, ⟨0, 0, [], [], []⟩)⟩
    obtain ⟨f, hf⟩ := choose_lt hp
    have hspot : len = 0 ∨ ∃ b off, a = ⟨b, off, none⟩ := by
      rcases Nat.eq_zero_or_pos len with e | e
      · exact .inl e
      · right
        obtain ⟨b, off, spot⟩ := a
        obtain ⟨_, _, _, q4⟩ := hf 0 e
        have := q4 0 (.int .i64 (f 0).1.no) rfl
        have hs : spot = none := by simpa [Addr.add] using World.cell?_spot this
        exact ⟨b, off, by rw [hs]⟩
    refine ⟨(List.range len).map fun i => (f i).2, by simp, ⟨(List.range len).map fun i => (f i).1, by simp, fun i y hy => ?_, fun i r p hr hq => ?_⟩, fun p hp' => ?_, fun p hp' => ?_, Nat.le_trans hl hm⟩
    · have hil : i < len := by have := (List.getElem?_eq_some_iff.1 hy).1; simpa using this
      have hye : y = (f i).1 := by
        simp [hil] at hy
        exact hy.symm
      subst hye
      rcases hspot with e | ⟨b, off, rfl⟩
      · omega
      · have q := hf i hil
        have cell : ∀ j v, (encR (f i).1)[j]? = some v → w.cell? ⟨b, off + i * 5 + j, none⟩ = some v := fun j v hv => by
          have := q.2.2.2 j v hv
          rw [Addr.add_lit, ← Nat.add_assoc] at this
          exact this
        exact ⟨b, off, rfl, World.block_lt_of_cell? _ _ (cell 0 _ rfl), cell⟩
    · have hil : i < len := by have := (List.getElem?_eq_some_iff.1 hr).1; simpa using this
      simp [hil] at hr hq
      subst hr hq
      exact (hf i hil).1
    · obtain ⟨i, hi', rfl⟩ := List.mem_map.1 hp'
      exact (hf i (List.mem_range.1 hi')).2.1
    · obtain ⟨i, hi', rfl⟩ := List.mem_map.1 hp'
      exact (hf i (List.mem_range.1 hi')).2.2.1
end
end Go.Proofs.YtloecpgfohhmlaaDoor
