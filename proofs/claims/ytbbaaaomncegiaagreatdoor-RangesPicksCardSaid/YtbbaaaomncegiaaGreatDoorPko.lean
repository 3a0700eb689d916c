/-
  How a slice of numbers, and a slice of pages, open: to numbers; to pages, their rows no longer than what memory holds.
-/
import Derived.Test.YtbbaaaomncegiaaGreatDoorPgm
import Derived.Test.YtbbaaaomncegiaaGreatDoorOpn
import Derived.Test.YtbbaaaomncegiaaGreatDoorRge
import Derived.Test.YtbbaaaomncegiaaGreatDoorRgu
import Derived.ProofKit
import Derived.ChangeSlices
import Derived.Lib.SmallJoins
import Derived.Deep.Slices
import Derived.Deep.Fields
namespace Go.Proofs.YtbbaaaomncegiaaGreatDoor
open Go.ChangeShapes Go.WideShapes Go.RowKit Go.Deep Go.Joins Go.Proofs.Prn

/-- Numbers as cells. -/
def encL (l : List Int) : List Value := l.map (Value.int .i64)

section
variable {H : Type} {enc : TypeId × Value → H} {w : World} {base : Nat} {spare : Nat → Bool} {held : Bool}

/-- The cells of a struct of numbers. -/
theorem cells_ints {t ti : TypeId} {fs : Array Field} (hs : Tryz.prog.underlying t = some (.struct fs)) (hone : oneCellFields Tryz.prog fs = true) (hC : Tryz.prog.cellsOf t = fs.size) (hty : ∀ (i : Nat) (f : Field), fs[i]? = some f → f.type = ti)
    (hti : Tryz.prog.underlying ti = some (.int .i64)) {fuel : Nat} {cs : List Value} {x : DataW H × List MemPlace} (h : DataW.trod enc Tryz.prog w base spare held fuel t cs = some x) :
    ∃ l : List Int, cs = encL l ∧ l.length = fs.size ∧ ∀ y, y ∈ l → (Lit.int .i64 y).wf = true := by
  obtain ⟨xs, n, _, _, hcl, hxl, hg⟩ := DataW.trod_struct hs h
  have key : ∀ i, i < cs.length → ∃ y, cs[i]? = some (.int .i64 y) ∧ (Lit.int .i64 y).wf = true := fun i hi => by
    have hif : i < fs.size := by omega
    obtain ⟨o, k⟩ := hone_of hone i fs[i] (Array.getElem?_eq_getElem hif)
    have hgi := hg i fs[i] (Array.getElem?_eq_getElem hif)
    rw [o, k, List.drop_eq_getElem_cons hi, List.take_succ_cons, List.take_zero, List.getElem?_eq_getElem (by omega : i < xs.length), hty i fs[i] (Array.getElem?_eq_getElem hif)] at hgi
    obtain ⟨y, hy, _, hw⟩ := DataW.trod_int hti hgi
    refine ⟨y, ?_, hw⟩
    rw [List.getElem?_eq_getElem hi]
    simpa using hy
  have gen : ∀ cs : List Value, (∀ i, i < cs.length → ∃ y, cs[i]? = some (.int .i64 y) ∧ (Lit.int .i64 y).wf = true) → ∃ l : List Int, cs = encL l ∧ ∀ y, y ∈ l → (Lit.int .i64 y).wf = true := by
    intro cs
    induction cs with
    | nil => intro _; exact ⟨[], rfl, fun y hy => by cases hy⟩
    | cons v r ih =>
      intro hk
      obtain ⟨y, hy, hw⟩ := hk 0 (by simp)
      obtain ⟨l, rfl, hl⟩ := ih fun i hi => by
        have := hk (i + 1) (by simpa using hi)
        simpa using this
      simp at hy
      subst hy
      refine ⟨y :: l, rfl, fun z hz => ?_⟩
      rcases List.mem_cons.1 hz with rfl | hz
      · exact hw
      · exact hl z hz
  obtain ⟨l, e, hl⟩ := gen cs key
  refine ⟨l, e, ?_, hl⟩
  have : cs.length = l.length := by rw [e]; simp [encL]
  omega

/-- A slice of structs of numbers. -/
theorem open_rows {tt t ti : TypeId} {fs : Array Field} (hsl : Tryz.prog.underlying tt = some (.slice t)) (hs : Tryz.prog.underlying t = some (.struct fs)) (hone : oneCellFields Tryz.prog fs = true) (hC : Tryz.prog.cellsOf t = fs.size) (hty : ∀ (i : Nat) (f : Field), fs[i]? = some f → f.type = ti)
    (hti : Tryz.prog.underlying ti = some (.int .i64)) (h0 : 0 < fs.size) {fuel : Nat} {A : Option Addr} {len cap : Nat} {x : DataW H × List MemPlace} (h : DataW.trod enc Tryz.prog w base spare held fuel tt [.slice A len cap] = some x) :
    ∃ xs : List (List Int), xs.length = len ∧ (∀ l, l ∈ xs → l.length = fs.size ∧ ∀ y, y ∈ l → (Lit.int .i64 y).wf = true) ∧ RowAt encL fs.size w A xs ∧ len ≤ cap ∧ cap ≤ maxLen ∧ (A = none → cap = 0) := by
  rcases open_slice hsl h with ⟨hcs, _⟩ | ⟨a, l, c, m, n, D, Pl, hcs, hb, hl, hm, hmm, _, hx⟩
  · simp at hcs
    obtain ⟨rfl, rfl, rfl⟩ := hcs
    exact ⟨[], rfl, (fun l hl => by cases hl), RowAt.nil _ _, Nat.le_refl _, Nat.zero_le _, fun _ => rfl⟩
  · simp at hcs
    obtain ⟨rfl, rfl, rfl⟩ := hcs
    have hlm : len ≤ m := by rw [hmm]; split <;> omega
    have hi : ∀ i, i < len → ∃ q : List Int, q.length = fs.size ∧ (∀ y, y ∈ q → (Lit.int .i64 y).wf = true) ∧ ∀ j v, (encL q)[j]? = some v → w.cell? (a.add (i * fs.size + j)) = some v := fun i hi => by
      obtain ⟨cs', hc, ht⟩ := hx i (by omega)
      obtain ⟨q, e, hql, hqw⟩ := cells_ints hs hone hC hty hti ht
      subst e
      refine ⟨q, hql, hqw, fun j v hv => ?_⟩
      obtain ⟨_, hcl, hat⟩ := World.cells?_some hc
      have hj : j < Tryz.prog.cellsOf t := by
        have := (List.getElem?_eq_some_iff.1 hv).1
        rw [hcl] at this; exact this
      have := hat j hj
      rw [Go.Deep.add_add, hC] at this
      rw [this, hv]
    obtain ⟨f, hf⟩ := choose_lt hi
    have hspot : len = 0 ∨ ∃ b off, a = ⟨b, off, none⟩ := by
      rcases Nat.eq_zero_or_pos len with e | e
      · exact .inl e
      · right
        obtain ⟨b, off, spot⟩ := a
        obtain ⟨q1, _, q3⟩ := hf 0 e
        obtain ⟨v, hv⟩ : ∃ v, (encL (f 0))[0]? = some v := ⟨_, List.getElem?_eq_getElem (by simp [encL, q1]; exact h0)⟩
        have := q3 0 v hv
        have hs : spot = none := by simpa [Addr.add] using World.cell?_spot this
        exact ⟨b, off, by rw [hs]⟩
    refine ⟨(List.range len).map f, by simp, fun l hl => ?_, fun i y hy => ?_, hl, hm, fun e => by cases e⟩
    · obtain ⟨i, hi', rfl⟩ := List.mem_map.1 hl
      have := hf i (List.mem_range.1 hi')
      exact ⟨this.1, this.2.1⟩
    · have hil : i < len := by have := (List.getElem?_eq_some_iff.1 hy).1; simpa using this
      have hye : y = f i := by
        simp [hil] at hy
        exact hy.symm
      subst hye
      rcases hspot with e | ⟨b, off, rfl⟩
      · omega
      · have q := hf i hil
        have cell : ∀ j v, (encL (f i))[j]? = some v → w.cell? ⟨b, off + i * fs.size + j, none⟩ = some v := fun j v hv => by
          have := q.2.2 j v hv
          rw [Addr.add_lit, ← Nat.add_assoc] at this
          exact this
        have hlt : b < w.heap.size := by
          obtain ⟨v, hv⟩ : ∃ v, (encL (f i))[0]? = some v := ⟨_, List.getElem?_eq_getElem (by simp [encL, q.1]; exact h0)⟩
          exact World.block_lt_of_cell? _ _ (cell 0 v hv)
        exact ⟨b, off, rfl, hlt, cell⟩
end

def F64 (f : Frag) : Prop := ∀ n ∈ f.nums, I64 n
structure P64 (p : Page) : Prop where
  nums : ∀ n ∈ p.nums, I64 n
  part : ∀ k, ∀ f ∈ pget p k, F64 f
theorem i64_of_wf {n : Int} (h : (Lit.int .i64 n).wf = true) : I64 n := by
  simp only [Lit.wf, Bool.and_eq_true, decide_eq_true_eq] at h
  exact ⟨h.1, h.2⟩
def fragOf : List Int → Frag
  | [a, b, c, d, e, f, g] => ⟨a, b, c, d, e, f, g⟩
  | _ => ⟨0, 0, 0, 0, 0, 0, 0⟩
theorem seven {l : List Int} (h : l.length = 7) : ∃ a b c d e f g, l = [a, b, c, d, e, f, g] := by
  match l, h with
  | [a, b, c, d, e, f, g], _ => exact ⟨a, b, c, d, e, f, g, rfl⟩
theorem fragOf_enc {l : List Int} (h : l.length = 7) : encF (fragOf l) = encL l := by
  obtain ⟨a, b, c, d, e, f, g, rfl⟩ := seven h
  rfl
theorem fragOf_64 {l : List Int} (h : l.length = 7) (hw : ∀ y, y ∈ l → (Lit.int .i64 y).wf = true) : F64 (fragOf l) := by
  obtain ⟨a, b, c, d, e, f, g, rfl⟩ := seven h
  intro n hn
  exact i64_of_wf (hw n hn)

section
variable {H : Type} {enc : TypeId × Value → H} {w : World} {base : Nat} {spare : Nat → Bool} {held : Bool}
theorem open_frags {fuel : Nat} {A : Option Addr} {len cap : Nat} {x : DataW H × List MemPlace} (h : DataW.trod enc Tryz.prog w base spare held fuel 36 [.slice A len cap] = some x) :
    ∃ xs : List Frag, xs.length = len ∧ (∀ y, y ∈ xs → F64 y) ∧ RowAt encF 7 w A xs := by
  obtain ⟨xs, hl, hw, hr, h1, h2, h3⟩ := open_rows (ti := 3) Tryz.underlying36 Tryz.underlying61 (by kernel_rfl) (by kernel_rfl) (fun i f hf => by
    match i, hf with
    | 0, hf => simp at hf; subst hf; rfl
    | 1, hf => simp at hf; subst hf; rfl
    | 2, hf => simp at hf; subst hf; rfl
    | 3, hf => simp at hf; subst hf; rfl
    | 4, hf => simp at hf; subst hf; rfl
    | 5, hf => simp at hf; subst hf; rfl
    | 6, hf => simp at hf; subst hf; rfl
    | i + 7, hf => simp at hf) Tryz.underlying3 (by decide) h
  refine ⟨xs.map fragOf, by simpa using hl, fun y hy => ?_, fun i y hy => ?_⟩
  · obtain ⟨l, hlm, rfl⟩ := List.mem_map.1 hy
    exact fragOf_64 (hw l hlm).1 (hw l hlm).2
  · rw [List.getElem?_map] at hy
    obtain ⟨l, hlx, rfl⟩ := Option.map_eq_some_iff.1 hy
    obtain ⟨b, off, e, hb, hc⟩ := hr i l hlx
    refine ⟨b, off, e, hb, fun c v hv => hc c v ?_⟩
    rw [fragOf_enc (hw l (List.mem_iff_getElem?.2 ⟨i, hlx⟩)).1] at hv
    exact hv
/-- What a slice weighs. -/
theorem slice_weight {t e : TypeId} {fuel : Nat} {A : Option Addr} {len cap : Nat} {x : DataW H × List MemPlace} (ht : Tryz.prog.underlying t = some (.slice e)) (h : DataW.trod enc Tryz.prog w base spare held fuel t [.slice A len cap] = some x)
    (hR : ∀ m ∈ x.1.weights Tryz.prog t, m ≤ reachBytes) : len * Tryz.prog.bytesOf e ≤ reachBytes := by
  rcases open_slice ht h with ⟨hcs, _⟩ | ⟨a, l, c, m, n, D, Pl, hcs, hb, hl, hm, hmm, hx, _⟩
  · simp at hcs
    obtain ⟨_, rfl, _⟩ := hcs
    simp
  · simp at hcs
    obtain ⟨rfl, rfl, rfl⟩ := hcs
    rw [hx] at hR
    simp only [DataW.weights, ht] at hR
    have := hR _ (List.mem_cons_self ..)
    simp only [List.length_map, List.length_range] at this
    refine Nat.le_trans (Nat.mul_le_mul_right _ ?_) this
    omega
theorem open_slv {t e : TypeId} {fuel : Nat} {v : Value} {x : DataW H × List MemPlace} (ht : Tryz.prog.underlying t = some (.slice e)) (h : DataW.trod enc Tryz.prog w base spare held fuel t [v] = some x) : ∃ A n c, v = .slice A n c := by
  rcases open_slice ht h with ⟨hcs, _⟩ | ⟨a, l, c, m, n, D, Pl, hcs, _⟩
  · simp at hcs; exact ⟨_, _, _, hcs⟩
  · simp at hcs; exact ⟨_, _, _, hcs⟩
theorem Tryz.bytesFrag : Tryz.prog.bytesOf 61 = 56 := by kernel_rfl
def PgFit (p : Page) : Prop := ∀ k, (pget p k).length ≤ 140737488351232
set_option maxRecDepth 100000 in
/-- One page's cells. -/
theorem open_page {fuel : Nat} {cs : List Value} {x : DataW H × List MemPlace} (h : DataW.trod enc Tryz.prog w base spare held fuel 38 cs = some x) (hR : ∀ m ∈ x.1.weights Tryz.prog 38, m ≤ reachBytes) :
    ∃ (r : Raw) (p : Page), cs = encR r ∧ PgAt w r p ∧ P64 p ∧ PgFit p := by
  obtain ⟨xs, n, _, hx, hcl, hxl, hg⟩ := DataW.trod_struct Tryz.underlying38 h
  have hc5 : Tryz.prog.cellsOf 38 = 5 := by kernel_rfl
  have one : Tryz.prog.cellsOf 3 = 1 := by kernel_rfl
  have onS : Tryz.prog.cellsOf 36 = 1 := by kernel_rfl
  rw [hc5] at hcl
  have hx5 : xs.length = 5 := hxl
  clear hxl
  obtain ⟨c0, c1, c2, c3, c4, rfl⟩ : ∃ c0 c1 c2 c3 c4, cs = [c0, c1, c2, c3, c4] := by
    match cs, hcl with
    | [a, b, c, d, e], _ => exact ⟨a, b, c, d, e, rfl⟩
  obtain ⟨x0, x1, x2, x3, x4, rfl⟩ : ∃ x0 x1 x2 x3 x4, xs = [x0, x1, x2, x3, x4] := by
    match xs, hx5 with
    | [a, b, c, d, e], _ => exact ⟨a, b, c, d, e, rfl⟩
  have g0 : DataW.trod enc Tryz.prog w base spare held n 3 (([c0, c1, c2, c3, c4].drop 0).take (Tryz.prog.cellsOf 3)) = [x0, x1, x2, x3, x4][0]? := hg 0 _ rfl
  rw [one] at g0
  have g1 : DataW.trod enc Tryz.prog w base spare held n 3 (([c0, c1, c2, c3, c4].drop 1).take (Tryz.prog.cellsOf 3)) = [x0, x1, x2, x3, x4][1]? := hg 1 _ rfl
  rw [one] at g1
  have g2 : DataW.trod enc Tryz.prog w base spare held n 36 (([c0, c1, c2, c3, c4].drop 2).take (Tryz.prog.cellsOf 36)) = [x0, x1, x2, x3, x4][2]? := hg 2 _ rfl
  rw [onS] at g2
  have g3 : DataW.trod enc Tryz.prog w base spare held n 36 (([c0, c1, c2, c3, c4].drop 3).take (Tryz.prog.cellsOf 36)) = [x0, x1, x2, x3, x4][3]? := hg 3 _ rfl
  rw [onS] at g3
  have g4 : DataW.trod enc Tryz.prog w base spare held n 36 (([c0, c1, c2, c3, c4].drop 4).take (Tryz.prog.cellsOf 36)) = [x0, x1, x2, x3, x4][4]? := hg 4 _ rfl
  rw [onS] at g4
  simp only [List.drop_succ_cons, List.drop_zero, List.take_succ_cons, List.take_zero, List.getElem?_cons_zero, List.getElem?_cons_succ] at g0 g1 g2 g3 g4
  obtain ⟨y0, e0, _, w0⟩ := DataW.trod_int Tryz.underlying3 g0
  obtain ⟨y1, e1, _, w1⟩ := DataW.trod_int Tryz.underlying3 g1
  simp at e0 e1
  subst e0 e1
  obtain ⟨A2, n2, k2, rfl⟩ := open_slv Tryz.underlying36 g2
  obtain ⟨A3, n3, k3, rfl⟩ := open_slv Tryz.underlying36 g3
  obtain ⟨A4, n4, k4, rfl⟩ := open_slv Tryz.underlying36 g4
  obtain ⟨l2, rfl, q2, r2⟩ := open_frags g2
  obtain ⟨l3, rfl, q3, r3⟩ := open_frags g3
  obtain ⟨l4, rfl, q4, r4⟩ := open_frags g4
  have hwt : x.1.weights Tryz.prog 38 = x0.1.weights Tryz.prog 3 ++ (x1.1.weights Tryz.prog 3 ++ (x2.1.weights Tryz.prog 36 ++ (x3.1.weights Tryz.prog 36 ++ (x4.1.weights Tryz.prog 36 ++ [])))) := by
    rw [hx]
    simp only [DataW.weights, Tryz.underlying38]
    rfl
  rw [hwt] at hR
  have s2 := slice_weight Tryz.underlying36 g2 fun m hm => hR m (by simp [hm])
  have s3 := slice_weight Tryz.underlying36 g3 fun m hm => hR m (by simp [hm])
  have s4 := slice_weight Tryz.underlying36 g4 fun m hm => hR m (by simp [hm])
  rw [Tryz.bytesFrag] at s2 s3 s4
  have hre : reachBytes = 140737488351232 := rfl
  rw [hre] at s2 s3 s4
  refine ⟨⟨y0, y1, ⟨A2, l2.length, k2⟩, ⟨A3, l3.length, k3⟩, ⟨A4, l4.length, k4⟩⟩, ⟨y0, y1, l2, l3, l4⟩, rfl, ⟨rfl, rfl, ⟨rfl, r2⟩, ⟨rfl, r3⟩, ⟨rfl, r4⟩⟩, ⟨fun n hn => ?_, fun k f hf => ?_⟩, fun k => ?_⟩
  · simp only [Page.nums, List.mem_cons, List.not_mem_nil, or_false] at hn
    rcases hn with rfl | rfl
    · exact i64_of_wf w0
    · exact i64_of_wf w1
  · match k, hf with
    | 0, hf => exact q2 f hf
    | 1, hf => exact q3 f hf
    | k + 2, hf => exact q4 f hf
  · match k with
    | 0 => simp only [pget]; omega
    | 1 => simp only [pget]; omega
    | k + 2 => simp only [pget]; omega
theorem weightsAll_mem (P : Program) (e : TypeId) (l : List (DataW H)) (d : DataW H) (h : d ∈ l) : ∀ m ∈ d.weights P e, m ∈ DataW.weightsAll P e l := by
  induction l with
  | nil => cases h
  | cons a r ih =>
    intro m hm
    rw [DataW.weightsAll, List.mem_append]
    rcases List.mem_cons.1 h with rfl | h
    · exact .inl hm
    · exact .inr (ih h m hm)
theorem open_pages {fuel : Nat} {A : Option Addr} {len cap : Nat} {x : DataW H × List MemPlace} (h : DataW.trod enc Tryz.prog w base spare held fuel 35 [.slice A len cap] = some x) (hR : ∀ m ∈ x.1.weights Tryz.prog 35, m ≤ reachBytes) :
    ∃ ps : List Page, ps.length = len ∧ PagesAt w A ps ∧ (∀ p ∈ ps, P64 p) ∧ (∀ p ∈ ps, PgFit p) ∧ len ≤ maxLen := by
  have ht := Tryz.underlying35
  rcases open_slice ht h with ⟨hcs, _⟩ | ⟨a, l, c, m, n, D, Pl, hcs, hb, hl, hm, hmm, hx, hi⟩
  · simp at hcs
    obtain ⟨rfl, rfl, rfl⟩ := hcs
    exact ⟨[], rfl, PagesAt.nil _ _, fun p hp => (by cases hp), fun p hp => (by cases hp), Nat.zero_le _⟩
  · simp at hcs
    obtain ⟨rfl, rfl, rfl⟩ := hcs
    have hlm : len ≤ m := by rw [hmm]; split <;> omega
    have hc5 : Tryz.prog.cellsOf 38 = 5 := by kernel_rfl
    rw [hx] at hR
    simp only [DataW.weights, ht] at hR
    have hp : ∀ i, i < len → ∃ q : Raw × Page, PgAt w q.1 q.2 ∧ P64 q.2 ∧ PgFit q.2 ∧ ∀ j v, (encR q.1)[j]? = some v → w.cell? (a.add (i * 5 + j)) = some v := fun i hil => by
      obtain ⟨cs', hcc, htt⟩ := hi i (by omega)
      obtain ⟨r, p, e, h1, h2, h3⟩ := open_page htt fun q hq => hR q (List.mem_cons_of_mem _ (List.mem_append_left _ (weightsAll_mem _ _ _ (D i) (List.mem_map.2 ⟨i, List.mem_range.2 hil, rfl⟩) q hq)))
      refine ⟨(r, p), h1, h2, h3, fun j v hv => ?_⟩
      obtain ⟨_, hcl, hat⟩ := World.cells?_some hcc
      subst e
      have hj : j < 5 := by
        have := (List.getElem?_eq_some_iff.1 hv).1
        rwa [encR_len] at this
      have := hat j (by rw [hc5]; exact hj)
      rw [Go.Deep.add_add, hc5] at this
      rw [this, hv]
    have : Inhabited (Raw × Page) := ⟨(⟨0, 0, Sl.nil, Sl.nil, Sl.nil⟩, ⟨0, 0, [], [], []⟩)⟩
    obtain ⟨f, hf⟩ := choose_lt hp
    have hspot : len = 0 ∨ ∃ b off, a = ⟨b, off, none⟩ := by
      rcases Nat.eq_zero_or_pos len with e | e
      · exact .inl e
      · right
        obtain ⟨b, off, spot⟩ := a
        obtain ⟨_, _, _, q4⟩ := hf 0 e
        have := q4 0 (.int .i64 (f 0).1.no) rfl
        have hs : spot = none := by simpa [Addr.add] using World.cell?_spot this
        exact ⟨b, off, by rw [hs]⟩
    refine ⟨(List.range len).map fun i => (f i).2, by simp, ⟨(List.range len).map fun i => (f i).1, by simp, fun i y hy => ?_, fun i r p hr hq => ?_⟩, fun p hp' => ?_, fun p hp' => ?_, Nat.le_trans hl hm⟩
    · have hil : i < len := by have := (List.getElem?_eq_some_iff.1 hy).1; simpa using this
      have hye : y = (f i).1 := by
        simp [hil] at hy
        exact hy.symm
      subst hye
      rcases hspot with e | ⟨b, off, rfl⟩
      · omega
      · have q := hf i hil
        have cell : ∀ j v, (encR (f i).1)[j]? = some v → w.cell? ⟨b, off + i * 5 + j, none⟩ = some v := fun j v hv => by
          have := q.2.2.2 j v hv
          rw [Addr.add_lit, ← Nat.add_assoc] at this
          exact this
        exact ⟨b, off, rfl, World.block_lt_of_cell? _ _ (cell 0 _ rfl), cell⟩
    · have hil : i < len := by have := (List.getElem?_eq_some_iff.1 hr).1; simpa using this
      simp [hil] at hr hq
      subst hr hq
      exact (hf i hil).1
    · obtain ⟨i, hi', rfl⟩ := List.mem_map.1 hp'
      exact (hf i (List.mem_range.1 hi')).2.1
    · obtain ⟨i, hi', rfl⟩ := List.mem_map.1 hp'
      exact (hf i (List.mem_range.1 hi')).2.2.1
end

section
variable {H : Type} {enc : TypeId × Value → H} {w : World} {base : Nat} {spare : Nat → Bool} {held : Bool}
theorem open_nums {fuel : Nat} {A : Option Addr} {len cap : Nat} {x : DataW H × List MemPlace} (h : DataW.trod enc Tryz.prog w base spare held fuel 34 [.slice A len cap] = some x) :
    ∃ xs : List Int, xs.length = len ∧ RowAt encI 1 w A xs := by
  rcases open_ints Tryz.underlying34 Tryz.underlying3 (by kernel_rfl) h with ⟨hcs, _⟩ | ⟨a, l, c, zs, hcs, _, hl, _, hz, _, hx, _⟩
  · simp at hcs
    obtain ⟨rfl, rfl, rfl⟩ := hcs
    exact ⟨[], rfl, RowAt.nil _ _⟩
  · simp at hcs
    obtain ⟨rfl, rfl, rfl⟩ := hcs
    have hle : len ≤ zs.length := by rw [hz]; split <;> omega
    refine ⟨zs.take len, by rw [List.length_take]; omega, fun i x hi => ?_⟩
    have hil : i < len := by have := (List.getElem?_eq_some_iff.1 hi).1; rw [List.length_take] at this; omega
    rw [List.getElem?_take, if_pos hil] at hi
    have h1 := hx i (by omega)
    rw [show zs.getD i 0 = x by rw [List.getD_eq_getElem?_getD, hi]; rfl] at h1
    obtain ⟨b, off, spot⟩ := a
    have hs : spot = none := by
      have h0 := hx 0 (by omega)
      simpa [Addr.add] using World.cell?_spot h0
    subst hs
    rw [Addr.add_lit] at h1
    refine ⟨b, off, rfl, World.block_lt_of_cell? _ _ h1, fun j v hv => ?_⟩
    match j, hv with
    | 0, hv =>
      simp [encI] at hv
      subst hv
      rw [Nat.mul_one]
      exact h1
    | j + 1, hv => simp [encI] at hv
end
end Go.Proofs.YtbbaaaomncegiaaGreatDoor
