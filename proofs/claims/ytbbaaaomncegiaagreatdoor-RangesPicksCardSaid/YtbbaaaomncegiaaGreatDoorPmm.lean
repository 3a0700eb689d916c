/-
  The rows of the table of types that the walks of pages ask for; how pages lie in memory: a row of pages, each with three rows of parts: as one reads them; as a reader that puts them together owns them.
-/
import Derived.Test.YtbbaaaomncegiaaGreatDoorGen
import Derived.Test.YtbbaaaomncegiaaGreatDoorPrn
import Derived.Deep.AppendLies
import Derived.Laws.OwnMore
namespace Go.Proofs.YtbbaaaomncegiaaGreatDoor
open Go.RowKit Go.Proofs.Prn

theorem Tryz.infoFrag : (Tryz.prog.info? 61).map (fun i => (i.zero, i.size, i.bytes)) = some (some (.agg #[.int .i64 0, .int .i64 0, .int .i64 0, .int .i64 0, .int .i64 0, .int .i64 0, .int .i64 0]), 7, 56) := by kernel_rfl
theorem Tryz.infoPage : (Tryz.prog.info? 38).map (fun i => (i.zero, i.size, i.bytes)) = some (some (.agg #[.int .i64 0, .int .i64 0, .slice none 0 0, .slice none 0 0, .slice none 0 0]), 5, 88) := by kernel_rfl
def encF (f : Frag) : List Value := [.int .i64 f.node, .int .i64 f.atom, .int .i64 f.frm, .int .i64 f.x, .int .i64 f.y, .int .i64 f.w, .int .i64 f.h]
theorem encF_len (f : Frag) : (encF f).length = 7 := rfl
end Go.Proofs.YtbbaaaomncegiaaGreatDoor

namespace Go.Proofs.YtbbaaaomncegiaaGreatDoor
open Go.RowKit Go.Proofs.Prn

/-- A slice's three words. -/
structure Sl where
  A : Option Addr
  n : Nat
  c : Nat
abbrev Sl.v (s : Sl) : Value := .slice s.A s.n s.c
def Sl.nil : Sl := ⟨none, 0, 0⟩
/-- A page's cells. -/
structure Raw where
  no : Int
  kind : Int
  h : Sl
  f : Sl
  l : Sl
def encR (r : Raw) : List Value := [.int .i64 r.no, .int .i64 r.kind, r.h.v, r.f.v, r.l.v]
theorem encR_len (r : Raw) : (encR r).length = 5 := rfl
theorem encR_one (r : Raw) : ∀ u ∈ encR r, u.oneCell' = true := by
  intro u hu
  simp only [encR, List.mem_cons, List.not_mem_nil, or_false] at hu
  rcases hu with rfl | rfl | rfl | rfl | rfl <;> rfl
theorem encF_one (f : Frag) : ∀ u ∈ encF f, u.oneCell' = true := by
  intro u hu
  simp only [encF, List.mem_cons, List.not_mem_nil, or_false] at hu
  rcases hu with rfl | rfl | rfl | rfl | rfl | rfl | rfl <;> rfl
def Raw.get (r : Raw) : Nat → Sl
  | 0 => r.h
  | 1 => r.f
  | _ => r.l
def pget (p : Page) : Nat → List Frag
  | 0 => p.heads
  | 1 => p.flow
  | _ => p.floats
def Raw.put (r : Raw) (s : Sl) : Nat → Raw
  | 0 => { r with h := s }
  | 1 => { r with f := s }
  | _ => { r with l := s }

/-! ### As one reads them -/
def SlAt (w : World) (s : Sl) (l : List Frag) : Prop := s.n = l.length ∧ RowAt encF 7 w s.A l
def PgAt (w : World) (r : Raw) (p : Page) : Prop := r.no = p.no ∧ r.kind = p.kind ∧ SlAt w r.h p.heads ∧ SlAt w r.f p.flow ∧ SlAt w r.l p.floats
def PagesAt (w : World) (A : Option Addr) (ps : List Page) : Prop :=
  ∃ rs : List Raw, rs.length = ps.length ∧ RowAt encR 5 w A rs ∧ ∀ (i : Nat) r p, rs[i]? = some r → ps[i]? = some p → PgAt w r p
section
variable {w w' : World}
theorem SlAt.below {s : Sl} {l : List Frag} (h : SlAt w s l) (hb : Below w.heap.size w w') : SlAt w' s l := ⟨h.1, h.2.below hb⟩
theorem PgAt.below {r : Raw} {p : Page} (h : PgAt w r p) (hb : Below w.heap.size w w') : PgAt w' r p := ⟨h.1, h.2.1, h.2.2.1.below hb, h.2.2.2.1.below hb, h.2.2.2.2.below hb⟩
theorem PagesAt.below {A : Option Addr} {ps : List Page} (h : PagesAt w A ps) (hb : Below w.heap.size w w') : PagesAt w' A ps := by
  obtain ⟨rs, h1, h2, h3⟩ := h
  exact ⟨rs, h1, h2.below hb, fun i r p hr hp => (h3 i r p hr hp).below hb⟩
theorem PagesAt.nil (w : World) (A : Option Addr) : PagesAt w A [] := ⟨[], rfl, RowAt.nil _ _, fun i r p hr => by simp at hr⟩
theorem PgAt.get {r : Raw} {p : Page} (h : PgAt w r p) (k : Nat) : SlAt w (r.get k) (pget p k) := by
  match k with
  | 0 => exact h.2.2.1
  | 1 => exact h.2.2.2.1
  | k + 2 => exact h.2.2.2.2
end

/-! ### As a reader owns them -/
/-- A row of parts that is owned, in a block from base on, below B. -/
def FrA (w : World) (base B : Nat) (s : Sl) (l : List Frag) : Prop := w.ownsRow base 61 7 s.v l.length (flatL encF l) ∧ ∀ g, s.v.ownBlock = some g → g < B
def PgA (w : World) (base B : Nat) (r : Raw) (p : Page) : Prop := r.no = p.no ∧ r.kind = p.kind ∧ ∀ k, k < 3 → FrA w base B (r.get k) (pget p k)
def PgsA (w : World) (base B : Nat) (rs : List Raw) (ps : List Page) : Prop := rs.length = ps.length ∧ ∀ (i : Nat) r p, rs[i]? = some r → ps[i]? = some p → PgA w base B r p
/-- The page that is being put together. -/
def Cur (w : World) (base B last : Nat) (r : Raw) (p : Page) : Prop := r.no = p.no ∧ r.kind = p.kind ∧ ∀ k, k < 3 →
  (k < last → FrA w base B (r.get k) (pget p k)) ∧ (k = last → w.ownsRow B 61 7 (r.get k).v (pget p k).length (flatL encF (pget p k))) ∧ (last < k → r.get k = Sl.nil ∧ pget p k = [])

section
variable {w w' : World} {base B : Nat}
/-- What has grown is another row, or one that begins at B or beyond. -/
theorem FrA.kept {s : Sl} {l : List Frag} (h : FrA w base B s l) {row : Option Nat} (hg : w.grownBy w' row) (hr : ∀ g, row = some g → B ≤ g ∨ ∃ t cs, Blk w g t cs ∧ t ≠ 61) : FrA w' base B s l := by
  refine ⟨h.1.kept hg ?_, h.2⟩
  cases ho : s.v.ownBlock with
  | none => exact .inl rfl
  | some g =>
    refine .inr fun e => ?_
    rcases hr g e.symm with hB | ⟨t, cs, hb, ht⟩
    · have := h.2 g ho; omega
    · rcases h.1.2 with ⟨hv, _⟩ | ⟨g', cap, cur, hv, _, hg', _⟩
      · rw [hv] at ho; cases ho
      · rw [hv] at ho
        simp only [Value.ownBlock, Option.some.injEq] at ho
        subst ho
        unfold Blk at hb
        rw [hg'] at hb
        simp only [Option.some.injEq, Obj.cells.injEq] at hb
        exact ht hb.2.1.symm
theorem FrA.more {s : Sl} {l : List Frag} (h : FrA w base B s l) {B' : Nat} (hB : B ≤ B') : FrA w base B' s l := ⟨h.1, fun g hg => Nat.lt_of_lt_of_le (h.2 g hg) hB⟩
theorem PgA.kept {r : Raw} {p : Page} (h : PgA w base B r p) {row : Option Nat} (hg : w.grownBy w' row) (hr : ∀ g, row = some g → B ≤ g ∨ ∃ t cs, Blk w g t cs ∧ t ≠ 61) : PgA w' base B r p :=
  ⟨h.1, h.2.1, fun k hk => (h.2.2 k hk).kept hg hr⟩
theorem PgsA.kept {rs : List Raw} {ps : List Page} (h : PgsA w base B rs ps) {row : Option Nat} (hg : w.grownBy w' row) (hr : ∀ g, row = some g → B ≤ g ∨ ∃ t cs, Blk w g t cs ∧ t ≠ 61) : PgsA w' base B rs ps :=
  ⟨h.1, fun i r p h1 h2 => (h.2 i r p h1 h2).kept hg hr⟩
theorem PgsA.more {rs : List Raw} {ps : List Page} (h : PgsA w base B rs ps) {B' : Nat} (hB : B ≤ B') : PgsA w base B' rs ps :=
  ⟨h.1, fun i r p h1 h2 => ⟨(h.2 i r p h1 h2).1, (h.2 i r p h1 h2).2.1, fun k hk => ((h.2 i r p h1 h2).2.2 k hk).more hB⟩⟩
theorem FrA.nil (w : World) (base B : Nat) : FrA w base B Sl.nil [] := ⟨World.ownsRow_nil _ _ _ _, fun g hg => by cases hg⟩
theorem FrA.of_own {s : Sl} {l : List Frag} (h : w.ownsRow B 61 7 s.v l.length (flatL encF l)) (hb : base ≤ B) : FrA w base w.heap.size s l := ⟨ownsRow_base h hb, fun g hg => (h.lt g hg).2⟩
theorem FrA.at_ {s : Sl} {l : List Frag} (h : FrA w base B s l) : SlAt w s l := by
  obtain ⟨A, c, hv, hA, _⟩ := RowAt.of_own encF_len h.1
  injection hv with h1 h2 h3
  exact ⟨h2, by rw [h1]; exact hA⟩
/-- The page is done: all its rows lie below the heap's end. -/
theorem Cur.done {last : Nat} {r : Raw} {p : Page} (h : Cur w base B last r p) (hb : base ≤ B) (hB : B ≤ w.heap.size) : PgA w base w.heap.size r p := by
  refine ⟨h.1, h.2.1, fun k hk => ?_⟩
  obtain ⟨h1, h2, h3⟩ := h.2.2 k hk
  rcases Nat.lt_trichotomy k last with hl | hl | hl
  · exact (h1 hl).more hB
  · exact .of_own (h2 hl) hb
  · obtain ⟨e1, e2⟩ := h3 hl
    rw [e1, e2]
    exact FrA.nil _ _ _
theorem Cur.new (w : World) (base B : Nat) (no kind : Int) : Cur w base B 0 ⟨no, kind, Sl.nil, Sl.nil, Sl.nil⟩ ⟨no, kind, [], [], []⟩ := by
  refine ⟨rfl, rfl, fun k hk => ⟨fun h => by omega, fun h => ?_, fun h => ?_⟩⟩
  · subst h; exact World.ownsRow_nil _ _ _ _
  · match k, h with
    | 1, _ => exact ⟨rfl, rfl⟩
    | k + 2, _ => exact ⟨rfl, rfl⟩
/-- A later kind begins. -/
theorem Cur.rise {last : Nat} {r : Raw} {p : Page} (h : Cur w base B last r p) (hb : base ≤ B) (hB : B ≤ w.heap.size) {k : Nat} (hk : last < k) : Cur w base w.heap.size k r p := by
  refine ⟨h.1, h.2.1, fun j hj => ?_⟩
  obtain ⟨h1, h2, h3⟩ := h.2.2 j hj
  refine ⟨fun hjk => ?_, fun hjk => ?_, fun hjk => h3 (by omega)⟩
  · rcases Nat.lt_trichotomy j last with hl | hl | hl
    · exact (h1 hl).more hB
    · exact .of_own (h2 hl) hb
    · obtain ⟨e1, e2⟩ := h3 hl
      rw [e1, e2]
      exact FrA.nil _ _ _
  · obtain ⟨e1, e2⟩ := h3 (by omega)
    rw [e1, e2]
    exact World.ownsRow_nil _ _ _ _
theorem Cur.kept {last : Nat} {r : Raw} {p : Page} (h : Cur w base B last r p) {row : Option Nat} (hg : w.grownBy w' row) (hr : ∀ g, row = some g → ∃ t cs, Blk w g t cs ∧ t ≠ 61) : Cur w' base B last r p := by
  refine ⟨h.1, h.2.1, fun k hk => ?_⟩
  obtain ⟨h1, h2, h3⟩ := h.2.2 k hk
  refine ⟨fun hl => (h1 hl).kept hg fun g e => .inr (hr g e), fun hl => (h2 hl).kept hg ?_, h3⟩
  have ho := h2 hl
  cases ho' : (r.get k).v.ownBlock with
  | none => exact .inl rfl
  | some g =>
    refine .inr fun e => ?_
    obtain ⟨t, cs, hb, ht⟩ := hr g e.symm
    rcases ho.2 with ⟨hv, _⟩ | ⟨g', cap, cur, hv, _, hg', _⟩
    · rw [hv] at ho'; cases ho'
    · rw [hv] at ho'
      simp only [Value.ownBlock, Option.some.injEq] at ho'
      subst ho'
      unfold Blk at hb
      rw [hg'] at hb
      simp only [Option.some.injEq, Obj.cells.injEq] at hb
      exact ht hb.2.1.symm
theorem get_put (r : Raw) (s : Sl) (k j : Nat) (hk : k < 3) (hj : j < 3) : (r.put s k).get j = if j = k then s else r.get j := by
  match k, hk, j, hj with
  | 0, _, 0, _ => rfl
  | 0, _, 1, _ => rfl
  | 0, _, 2, _ => rfl
  | 1, _, 0, _ => rfl
  | 1, _, 1, _ => rfl
  | 1, _, 2, _ => rfl
  | 2, _, 0, _ => rfl
  | 2, _, 1, _ => rfl
  | 2, _, 2, _ => rfl
theorem pget_add (p : Page) (f : Frag) (k j : Nat) (hk : k < 3) (hj : j < 3) : pget (addPart p f k) j = if j = k then pget p j ++ [f] else pget p j := by
  match k, hk, j, hj with
  | 0, _, 0, _ => rfl
  | 0, _, 1, _ => rfl
  | 0, _, 2, _ => rfl
  | 1, _, 0, _ => rfl
  | 1, _, 1, _ => rfl
  | 1, _, 2, _ => rfl
  | 2, _, 0, _ => rfl
  | 2, _, 1, _ => rfl
  | 2, _, 2, _ => rfl
theorem put_same (r : Raw) (s : Sl) (k : Nat) : (r.put s k).no = r.no ∧ (r.put s k).kind = r.kind := by
  match k with
  | 0 => exact ⟨rfl, rfl⟩
  | 1 => exact ⟨rfl, rfl⟩
  | k + 2 => exact ⟨rfl, rfl⟩
/-- A part is put behind the row of the kind at hand. -/
theorem Cur.add {k : Nat} {r : Raw} {p : Page} (h : Cur w base B k r p) (hk : k < 3) (f : Frag) {s : Sl} (hg : w.grownBy w' (r.get k).v.ownBlock)
    (hs : w'.ownsRow B 61 7 s.v ((pget p k).length + 1) (flatL encF (pget p k) ++ encF f)) : Cur w' base B k (r.put s k) (addPart p f k) := by
  refine ⟨(put_same r s k).1.trans (h.1.trans (addPart_kind p f k).1.symm), (put_same r s k).2.trans (h.2.1.trans (addPart_kind p f k).2.symm), fun j hj => ?_⟩
  rw [get_put r s k j hk hj, pget_add p f k j hk hj]
  obtain ⟨h1, _, h3⟩ := h.2.2 j hj
  refine ⟨fun hl => ?_, fun hl => ?_, fun hl => ?_⟩
  · rw [if_neg (by omega), if_neg (by omega)]
    exact (h1 hl).kept hg fun g e => .inl ((h.2.2 k hk).2.1 rfl |>.lt g e).1
  · subst hl
    rw [if_pos rfl, if_pos rfl, List.length_append, flatL_append, flatL_one_]
    exact hs
  · rw [if_neg (by omega), if_neg (by omega)]
    exact h3 hl
end
/-! ### Worlds in which rows of parts stand as they stood -/
structure KF (w w' : World) : Prop where
  size : w.heap.size ≤ w'.heap.size
  blk : ∀ g cs, Blk w g 61 cs → Blk w' g 61 cs
section
variable {w w' w'' : World}
theorem KF.refl (w : World) : KF w w := ⟨Nat.le_refl _, fun _ _ h => h⟩
theorem KF.trans (h : KF w w') (k : KF w' w'') : KF w w'' := ⟨Nat.le_trans h.size k.size, fun g cs hb => k.blk g cs (h.blk g cs hb)⟩
theorem KF.below (h : Below w.heap.size w w') : KF w w' := ⟨h.size, fun _ _ hb => hb.keep h⟩
theorem KF.alloc (h : KF w w') (o : Obj) : KF w (w'.alloc o) := h.trans (.below (bl (Below.refl _ _) o))
theorem KF.drewN (h : KF w w') (n : Nat) : KF w (w'.drewN n) := ⟨h.size, h.blk⟩
theorem KF.drew (h : KF w w') : KF w w'.drew := ⟨h.size, h.blk⟩
theorem KF.grown (h : KF w w') {row : Option Nat} (hg : w'.grownBy w'' row) (hr : ∀ g, row = some g → ∃ t cs, Blk w' g t cs ∧ t ≠ 61) : KF w w'' := by
  refine h.trans ⟨hg.size, fun g cs hb => hb.grown hg fun e => ?_⟩
  obtain ⟨t, cs', hb', ht⟩ := hr g e.symm
  unfold Blk at hb hb'
  rw [hb] at hb'
  injection hb' with hb'
  injection hb' with _ e2
  exact ht e2.symm
theorem KF.setCell (h : KF w w') {g j : Nat} {t : TypeId} {cs : Array Value} (hb : Blk w' g t cs) (ht : t ≠ 61) (u : Value) : KF w (w'.setCell ⟨g, j, none⟩ u) :=
  h.grown (row := some g) ⟨rfl, rfl, rfl, by simp, fun k _ hk => heap_setCell_other w' ⟨g, j, none⟩ k u (fun e => hk (by simp [e]))⟩ fun g' e => by cases e; exact ⟨t, cs, hb, ht⟩
theorem KF.own (h : KF w w') {B n : Nat} {v : Value} {xs : List Value} (ho : w.ownsRow B 61 7 v n xs) : w'.ownsRow B 61 7 v n xs := by
  refine ⟨ho.1, ho.2.elim .inl fun ⟨g, cap, cur, hv, hb, hg, r⟩ => .inr ⟨g, cap, cur, hv, hb, h.blk g cur hg, r⟩⟩
theorem FrA.kf {base B : Nat} {s : Sl} {l : List Frag} (k : KF w w') (h : FrA w base B s l) : FrA w' base B s l := ⟨k.own h.1, h.2⟩
theorem PgA.kf {base B : Nat} {r : Raw} {p : Page} (k : KF w w') (h : PgA w base B r p) : PgA w' base B r p := ⟨h.1, h.2.1, fun j hj => (h.2.2 j hj).kf k⟩
theorem PgsA.kf {base B : Nat} {rs : List Raw} {ps : List Page} (k : KF w w') (h : PgsA w base B rs ps) : PgsA w' base B rs ps := ⟨h.1, fun i r p h1 h2 => (h.2 i r p h1 h2).kf k⟩
theorem Cur.kf {base B last : Nat} {r : Raw} {p : Page} (k : KF w w') (h : Cur w base B last r p) : Cur w' base B last r p :=
  ⟨h.1, h.2.1, fun j hj => ⟨fun e => ((h.2.2 j hj).1 e).kf k, fun e => k.own ((h.2.2 j hj).2.1 e), (h.2.2 j hj).2.2⟩⟩
/-- What is owned is a block of its element's type. -/
theorem own_blk {base size n : Nat} {e : TypeId} {v : Value} {xs : List Value} (h : w.ownsRow base e size v n xs) {g : Nat} (hg : v.ownBlock = some g) : ∃ cs, Blk w g e cs := by
  rcases h.2 with ⟨rfl, _⟩ | ⟨g', cap, cur, rfl, _, hb, _⟩
  · cases hg
  · simp only [Value.ownBlock, Option.some.injEq] at hg
    subst hg
    exact ⟨cur, hb⟩
theorem own_ne {base size n : Nat} {e : TypeId} {v : Value} {xs : List Value} (h : w.ownsRow base e size v n xs) {g : Nat} {t : TypeId} {cs : Array Value} (hb : Blk w g t cs) (ht : e ≠ t) : some g ≠ v.ownBlock := fun e' => by
  obtain ⟨cs', hb'⟩ := own_blk h e'.symm
  unfold Blk at hb hb'
  rw [hb] at hb'
  injection hb' with hb'
  injection hb' with _ e2
  exact ht e2.symm
end
/-! ### Blocks of two -/
section
variable {w : World} {g : Nat} {t : TypeId} {a0 a1 : Value}
theorem Blk.facts2 (h : Blk w g t #[a0, a1]) : w.cell? ⟨g, 0, none⟩ = some a0 ∧ w.cell? ⟨g, 1, none⟩ = some a1 := ⟨h.cell 0, h.cell 1⟩
theorem Blk.free2 (h : Blk w g t #[a0, a1]) : w.frozen? ⟨g, 0, none⟩ = false ∧ w.frozen? ⟨g, 1, none⟩ = false := ⟨h.frozen 0, h.frozen 1⟩
end
theorem set_grown (w : World) (g j : Nat) (u : Value) : w.grownBy (w.setCell ⟨g, j, none⟩ u) (some g) :=
  ⟨rfl, rfl, rfl, by simp, fun k _ hk => heap_setCell_other w ⟨g, j, none⟩ k u (fun e => hk (by simp [e]))⟩
/-- A store into a block of another type than the row's. -/
theorem own_set {w : World} {base size n : Nat} {e : TypeId} {v : Value} {xs : List Value} (h : w.ownsRow base e size v n xs) {g j : Nat} {t : TypeId} {cs : Array Value} (hb : Blk w g t cs) (ht : e ≠ t) (u : Value) : (w.setCell ⟨g, j, none⟩ u).ownsRow base e size v n xs :=
  h.kept (set_grown w g j u) (.inr fun e' => own_ne h hb ht e'.symm)
theorem Blk.set2 {w : World} {g : Nat} {t : TypeId} {a0 a1 : Value} (h : Blk w g t #[a0, a1]) (b0 b1 : Value) : Blk ((w.setCell ⟨g, 0, none⟩ b0).setCell ⟨g, 1, none⟩ b1) g t #[b0, b1] := by
  have := (h.set_ 0 b0).set_ 1 b1
  simpa using this
/-- Rows of parts stand as they stood, but for one. -/
structure KX (row : Option Nat) (w w' : World) : Prop where
  size : w.heap.size ≤ w'.heap.size
  blk : ∀ g cs, Blk w g 61 cs → some g ≠ row → Blk w' g 61 cs
theorem KF.x {w w' w'' : World} {row : Option Nat} (h : KF w w') (hg : w'.grownBy w'' row) : KX row w w'' := ⟨Nat.le_trans h.size hg.size, fun g cs hb hne => (h.blk g cs hb).grown hg hne⟩
theorem KX.kf {w w' w'' : World} {row : Option Nat} (h : KX row w w') (k : KF w' w'') : KX row w w'' := ⟨Nat.le_trans h.size k.size, fun g cs hb hne => k.blk g cs (h.blk g cs hb hne)⟩
theorem FrA.kx {w w' : World} {base B : Nat} {s : Sl} {l : List Frag} (h : FrA w base B s l) {row : Option Nat} (k : KX row w w') (hr : ∀ g, row = some g → B ≤ g) : FrA w' base B s l := by
  refine ⟨⟨h.1.1, h.1.2.elim .inl fun ⟨g, cap, cur, hv, hb, hg, r⟩ => .inr ⟨g, cap, cur, hv, hb, k.blk g cur hg fun e => ?_, r⟩⟩, h.2⟩
  have h1 := hr g e.symm
  have h2 := h.2 g (by rw [hv]; rfl)
  omega
theorem PgsA.kx {w w' : World} {base B : Nat} {rs : List Raw} {ps : List Page} (h : PgsA w base B rs ps) {row : Option Nat} (k : KX row w w') (hr : ∀ g, row = some g → B ≤ g) : PgsA w' base B rs ps :=
  ⟨h.1, fun i r p h1 h2 => ⟨(h.2 i r p h1 h2).1, (h.2 i r p h1 h2).2.1, fun j hj => ((h.2 i r p h1 h2).2.2 j hj).kx k hr⟩⟩
theorem Cur.addx {w w' : World} {base B k : Nat} {r : Raw} {p : Page} (h : Cur w base B k r p) (hk : k < 3) (f : Frag) {s : Sl} (hg : KX (r.get k).v.ownBlock w w')
    (hs : w'.ownsRow B 61 7 s.v ((pget p k).length + 1) (flatL encF (pget p k) ++ encF f)) : Cur w' base B k (r.put s k) (addPart p f k) := by
  refine ⟨(put_same r s k).1.trans (h.1.trans (addPart_kind p f k).1.symm), (put_same r s k).2.trans (h.2.1.trans (addPart_kind p f k).2.symm), fun j hj => ?_⟩
  rw [get_put r s k j hk hj, pget_add p f k j hk hj]
  obtain ⟨h1, _, h3⟩ := h.2.2 j hj
  refine ⟨fun hl => ?_, fun hl => ?_, fun hl => ?_⟩
  · rw [if_neg (by omega), if_neg (by omega)]
    exact (h1 hl).kx hg fun g e => ((h.2.2 k hk).2.1 rfl |>.lt g e).1
  · subst hl
    rw [if_pos rfl, if_pos rfl, List.length_append, flatL_append, flatL_one_]
    exact hs
  · rw [if_neg (by omega), if_neg (by omega)]
    exact h3 hl
theorem flat_put (rpre : List Raw) (r : Raw) (s : Sl) (k : Nat) (hk : k < 3) : (flatL encR (rpre ++ [r])).set (rpre.length * 5 + 2 + k) s.v = flatL encR (rpre ++ [r.put s k]) := by
  rw [flatL_append, flatL_append, flatL_one_, flatL_one_, List.set_append_right _ _ (by rw [flatL_length encR_len]; omega), flatL_length encR_len]
  rw [show rpre.length * 5 + 2 + k - rpre.length * 5 = 2 + k by omega]
  match k, hk with
  | 0, _ => rfl
  | 1, _ => rfl
  | 2, _ => rfl
theorem flat_get (rpre : List Raw) (r : Raw) (k : Nat) (hk : k < 3) : (flatL encR (rpre ++ [r]))[rpre.length * 5 + 2 + k]? = some (r.get k).v := by
  have h : (rpre ++ [r])[rpre.length]? = some r := by simp
  have := flatL_at encR_len (rpre ++ [r]) rpre.length r h (2 + k) (r.get k).v (by
    match k, hk with
    | 0, _ => rfl
    | 1, _ => rfl
    | 2, _ => rfl)
  rw [← Nat.add_assoc] at this
  exact this
end Go.Proofs.YtbbaaaomncegiaaGreatDoor
