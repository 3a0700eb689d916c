/-
  Words for pages: what a row of pages reads as; appends of pages, of parts; what the copying round knows.
-/
import Derived.Test.YtbbaaaomncegiaaGreatDoorPmm
import Derived.Lib.AppendZeros
import Derived.Laws.AppendOwnNone
namespace Go.Proofs.YtbbaaaomncegiaaGreatDoor
open Go.RowKit Go.Proofs.Prn

theorem own_n {w : World} {base size n : Nat} {e : TypeId} {s : Sl} {xs : List Value} (h : w.ownsRow base e size s.v n xs) : s.n = n := by
  rcases h.2 with ⟨hv, h0⟩ | ⟨g, cap, cur, hv, _⟩
  · injection hv with _ h1 _; omega
  · injection hv
theorem PgsA.snoc {w : World} {base B : Nat} {rs : List Raw} {ps : List Page} {r : Raw} {p : Page} (h : PgsA w base B rs ps) (hp : PgA w base B r p) : PgsA w base B (rs ++ [r]) (ps ++ [p]) := by
  refine ⟨by rw [List.length_append, List.length_append, h.1]; rfl, fun i r' p' h1 h2 => ?_⟩
  rcases Nat.lt_trichotomy i rs.length with hl | hl | hl
  · rw [List.getElem?_append_left hl] at h1
    rw [List.getElem?_append_left (by rw [← h.1]; exact hl)] at h2
    exact h.2 i r' p' h1 h2
  · subst hl
    rw [List.getElem?_append_right (Nat.le_refl _), Nat.sub_self] at h1
    rw [h.1, List.getElem?_append_right (Nat.le_refl _), Nat.sub_self] at h2
    simp at h1 h2
    subst h1 h2
    exact hp
  · rw [List.getElem?_eq_none (by simp; omega)] at h1; cases h1
theorem FrA.at' {w : World} {base B : Nat} {r : Raw} {p : Page} (h : PgA w base B r p) : PgAt w r p := ⟨h.1, h.2.1, (h.2.2 0 (by omega)).at_, (h.2.2 1 (by omega)).at_, (h.2.2 2 (by omega)).at_⟩
theorem pages_of {w : World} {base B n : Nat} {v : Sl} {rs : List Raw} {ps : List Page} (h : w.ownsRow base 38 5 v.v n (flatL encR rs)) (hn : rs.length = n) (hp : PgsA w base B rs ps) : v.n = ps.length ∧ PagesAt w v.A ps := by
  subst hn
  obtain ⟨A, c, hv, hA, _⟩ := RowAt.of_own encR_len h
  injection hv with h1 h2 h3
  exact ⟨h2.trans hp.1, rs, hp.1, by rw [h1]; exact hA, fun i r p hr hq => FrA.at' (hp.2 i r p hr hq)⟩
theorem row_nil_none {α : Type} {enc : α → List Value} {k : Nat} {w : World} {l : List α} (h : RowAt enc k w none l) : l = [] := by
  cases l with
  | nil => rfl
  | cons x r => obtain ⟨b, off, e, _⟩ := h 0 x rfl; cases e
theorem run_append_no (w : World) (base : Nat) (v : Value) (n : Nat) (xs : List Value) (hown : w.ownsRow base 38 5 v n xs) (c : Nat) :
    (Builtin.append_ #[35, 35] 35 #[v, .slice none 0 c]).run Tryz.prog w = .ok v w := by
  obtain ⟨i0, hi, hz0, hz1, hz2⟩ := info_parts Tryz.infoPage
  have ht := Tryz.underlying35
  rcases hown.2 with ⟨rfl, rfl⟩ | ⟨g, cap, cur, rfl, _, _, hnc, _⟩
  · simp [Builtin.append_, run_underlying ht, sizeOf, typeInfo, hi, Builtin.lenOf, Builtin.firstCells]
  · simp [Builtin.append_, run_underlying ht, sizeOf, typeInfo, hi, Builtin.lenOf, Builtin.firstCells, hnc, storeCells]
/-- Pages behind an own row of pages. -/
theorem run_append_pages (w : World) (base : Nat) (v : Value) (rs : List Raw) (hown : w.ownsRow base 38 5 v rs.length (flatL encR rs)) (A : Option Addr) (c : Nat) (rA : List Raw) (hA : RowAt encR 5 w A rA)
    (hn : rs.length + rA.length ≤ 1000000) (hb : base ≤ w.heap.size) :
    ∃ v' w', (Builtin.append_ #[35, 35] 35 #[v, .slice A rA.length c]).run Tryz.prog w = .ok v' w' ∧ w'.ownsRow base 38 5 v' (rs ++ rA).length (flatL encR (rs ++ rA)) ∧ w.grownBy w' v.ownBlock := by
  obtain ⟨i0, hi, hz0, hz1, hz2⟩ := info_parts Tryz.infoPage
  cases A with
  | none =>
    obtain rfl := row_nil_none hA
    refine ⟨v, w, run_append_no w base v _ _ hown c, by simpa using hown, World.grownBy.refl _ _⟩
  | some a =>
    obtain ⟨v', w', h1, h2, h3, _⟩ := run_append_own (P := Tryz.prog) w base 35 35 38 i0 _ 5 88 Tryz.underlying35 hi hz0 hz1 hz2 rfl (by decide) v rs.length (flatL encR rs) hown a rA.length c (flatL encR rA)
      (flatL_length encR_len rA) (hA.add encR_len (by decide)) (flatL_cells encR_one rA) (by unfold maxLen; omega) (by omega) hb
    exact ⟨v', w', h1, by rw [flatL_append, List.length_append]; exact h2, h3⟩
/-- An append of pages behind an own row of pages, guarded or not. -/
theorem wpList_append_pages {ops : Array Oper} {rest : List Oper} {o : Oper} {a : Act} {w : World} {Q : Exit → Act → World → Prop} (hgd : Region.wanted o (yielded ops a.tmps) = true) (s x : Operand)
    (ho : o.op = .call { callee := .builtin .append, args := #[s, x], argTypes := #[35, 35] }) (hty : o.type = 35)
    (base : Nat) (v : Value) (rs : List Raw) (hs : a.eval s = v) (hown : w.ownsRow base 38 5 v rs.length (flatL encR rs)) (A : Option Addr) (n c : Nat) (rA : List Raw) (hx : a.eval x = .slice A n c) (hnl : n = rA.length) (hA : RowAt encR 5 w A rA)
    (hn : rs.length + rA.length ≤ 1000000) (hb : base ≤ w.heap.size)
    (h : ∀ v' w', w'.ownsRow base 38 5 v' (rs ++ rA).length (flatL encR (rs ++ rA)) → w.grownBy w' v.ownBlock → wpList Tryz.prog ops Q rest (a.put o.dst v') w') : wpList Tryz.prog ops Q (o :: rest) a w := by
  subst hnl
  obtain ⟨v', w', hr, h1, h2⟩ := run_append_pages w base v rs hown A c rA hA hn hb
  refine wpList_step fun K hK => ?_
  rw [if_pos hgd]
  exact Lib.wp_append_run w s x _ _ ho v _ hs hx v' w' (by rw [hty]; exact hr) (hK _ _ (h v' w' h1 h2))
theorem RowAt.raw {w : World} {A : Option Addr} {xs : List Raw} {i : Nat} {r : Raw} (h : RowAt encR 5 w A xs) (hx : xs[i]? = some r) :
    ∃ b off, A = some ⟨b, off, none⟩ ∧ b < w.heap.size ∧ w.cell? ⟨b, off + i * 5, none⟩ = some (.int .i64 r.no) ∧ w.cell? ⟨b, off + i * 5 + 1, none⟩ = some (.int .i64 r.kind) ∧ w.cell? ⟨b, off + i * 5 + 2, none⟩ = some r.h.v ∧
      w.cell? ⟨b, off + i * 5 + 3, none⟩ = some r.f.v ∧ w.cell? ⟨b, off + i * 5 + 4, none⟩ = some r.l.v := by
  obtain ⟨b, off, e, hb, hc⟩ := h i r hx
  exact ⟨b, off, e, hb, hc 0 _ rfl, hc 1 _ rfl, hc 2 _ rfl, hc 3 _ rfl, hc 4 _ rfl⟩
theorem RowAt.frag {w : World} {A : Option Addr} {xs : List Frag} {i : Nat} {f : Frag} (h : RowAt encF 7 w A xs) (hx : xs[i]? = some f) :
    ∃ b off, A = some ⟨b, off, none⟩ ∧ b < w.heap.size ∧ w.cell? ⟨b, off + i * 7, none⟩ = some (.int .i64 f.node) ∧ w.cell? ⟨b, off + i * 7 + 1, none⟩ = some (.int .i64 f.atom) ∧ w.cell? ⟨b, off + i * 7 + 2, none⟩ = some (.int .i64 f.frm) ∧
      w.cell? ⟨b, off + i * 7 + 3, none⟩ = some (.int .i64 f.x) ∧ w.cell? ⟨b, off + i * 7 + 4, none⟩ = some (.int .i64 f.y) ∧ w.cell? ⟨b, off + i * 7 + 5, none⟩ = some (.int .i64 f.w) ∧ w.cell? ⟨b, off + i * 7 + 6, none⟩ = some (.int .i64 f.h) := by
  obtain ⟨b, off, e, hb, hc⟩ := h i f hx
  exact ⟨b, off, e, hb, hc 0 _ rfl, hc 1 _ rfl, hc 2 _ rfl, hc 3 _ rfl, hc 4 _ rfl, hc 5 _ rfl, hc 6 _ rfl⟩
def PgSmall (p : Page) : Prop := p.heads.length ≤ 1000000 ∧ p.flow.length ≤ 1000000 ∧ p.floats.length ≤ 1000000
/-- Parts behind an own row of parts. -/
theorem run_append_frags (w : World) (base : Nat) (v : Value) (n : Nat) (xs : List Value) (hown : w.ownsRow base 61 7 v n xs) (A : Option Addr) (c : Nat) (l : List Frag) (hA : RowAt encF 7 w A l)
    (hn : n + l.length ≤ 1000000) (hb : base ≤ w.heap.size) :
    ∃ v' w', (Builtin.append_ #[36, 36] 36 #[v, .slice A l.length c]).run Tryz.prog w = .ok v' w' ∧ w'.ownsRow base 61 7 v' (n + l.length) (xs ++ flatL encF l) ∧ w.grownBy w' v.ownBlock := by
  obtain ⟨i0, hi, hz0, hz1, hz2⟩ := info_parts Tryz.infoFrag
  cases A with
  | none =>
    obtain rfl := row_nil_none hA
    refine ⟨v, w, ?_, by simpa [flatL] using hown, World.grownBy.refl _ _⟩
    have ht := Tryz.underlying36
    rcases hown.2 with ⟨rfl, rfl⟩ | ⟨g, cap, cur, rfl, _, _, hnc, _⟩
    · simp [Builtin.append_, run_underlying ht, sizeOf, typeInfo, hi, Builtin.lenOf, Builtin.firstCells]
    · simp [Builtin.append_, run_underlying ht, sizeOf, typeInfo, hi, Builtin.lenOf, Builtin.firstCells, hnc, storeCells]
  | some a =>
    obtain ⟨v', w', h1, h2, h3, _⟩ := run_append_own (P := Tryz.prog) w base 36 36 61 i0 _ 7 56 Tryz.underlying36 hi hz0 hz1 hz2 rfl (by decide) v n xs hown a l.length c (flatL encF l)
      (flatL_length encF_len l) (hA.add encF_len (by decide)) (flatL_cells encF_one l) (by unfold maxLen; omega) (by omega) hb
    exact ⟨v', w', h1, h2, h3⟩
theorem wpList_append_frags {ops : Array Oper} {rest : List Oper} {o : Oper} {a : Act} {w : World} {Q : Exit → Act → World → Prop} (hgd : Region.wanted o (yielded ops a.tmps) = true) (s x : Operand)
    (ho : o.op = .call { callee := .builtin .append, args := #[s, x], argTypes := #[36, 36] }) (hty : o.type = 36)
    (base : Nat) (v : Value) (hs : a.eval s = v) (hown : w.ownsRow base 61 7 v 0 []) (A : Option Addr) (c : Nat) (l : List Frag) (hx : a.eval x = .slice A l.length c) (hA : RowAt encF 7 w A l)
    (hn : l.length ≤ 1000000) (hb : base ≤ w.heap.size)
    (h : ∀ v' w', w'.ownsRow base 61 7 v' l.length (flatL encF l) → w.grownBy w' v.ownBlock → wpList Tryz.prog ops Q rest (a.put o.dst v') w') : wpList Tryz.prog ops Q (o :: rest) a w := by
  obtain ⟨v', w', hr, h1, h2⟩ := run_append_frags w base v 0 [] hown A c l hA (by omega) hb
  rw [Nat.zero_add, List.nil_append] at h1
  refine wpList_step fun K hK => ?_
  rw [if_pos hgd]
  exact Lib.wp_append_run w s x _ _ ho v _ hs hx v' w' (by rw [hty]; exact hr) (hK _ _ (h v' w' h1 h2))
theorem made_frags (w : World) : (w.alloc (.cells #[] 61)).ownsRow w.heap.size 61 7 (.slice (some ⟨w.heap.size, 0, none⟩) 0 0) 0 [] := by
  have := World.ownsRow_made (base := w.heap.size) (e := 61) (size := 7) w #[] 0 (by simp) (Nat.zero_le _) (by simp)
  simpa using this
/-- What the copying round knows: the page's copy in block P; the pages so far; the rows of the page that are copied. -/
structure Ost (w Y : World) (P : Nat) (v : Value) (rs : List Raw) (qs : List Page) (cs : Array Value) (done : List (Sl × List Frag)) : Prop where
  blk : Blk Y P 38 cs
  own : Y.ownsRow w.heap.size 38 5 v rs.length (flatL encR rs)
  pgs : PgsA Y w.heap.size P rs qs
  vb : ∀ g, v.ownBlock = some g → g < P
  below : Below w.heap.size w Y
  fr : ∀ x ∈ done, FrA Y w.heap.size Y.heap.size x.1 x.2
  low : w.heap.size ≤ P
theorem Ost.next {w Y : World} {P : Nat} {v : Value} {rs : List Raw} {qs : List Page} {cs : Array Value} {done : List (Sl × List Frag)} (h : Ost w Y P v rs qs cs done) {X : World} {s : Sl} {l : List Frag}
    (hg : (Y.alloc (.cells #[] 61)).grownBy X (some Y.heap.size)) (ho : X.ownsRow Y.heap.size 61 7 s.v l.length (flatL encF l)) (j : Nat) :
    Ost w (X.setCell ⟨P, j, none⟩ s.v) P v rs qs (cs.setIfInBounds j s.v) ((s, l) :: done) := by
  have hlt := h.blk.lt
  have hX : Blk X P 38 cs := (h.blk.alloc _).grown hg (by simp; omega)
  have hsz : Y.heap.size ≤ X.heap.size := by have := hg.size; simp at this; omega
  have hG : Y.grownBy (X.setCell ⟨P, j, none⟩ s.v) (some P) := by
    refine ⟨hg.1, hg.2, hg.3, by simpa using hsz, fun k hk hne => ?_⟩
    have hkP : k ≠ P := fun e => hne (by rw [e])
    rw [heap_setCell_other X ⟨P, j, none⟩ k s.v hkP, hg.block k (by simp; omega) (by simp; omega)]
    exact Below.heap_alloc Y _ k hk
  have hnr : ∀ g, some P = some g → P ≤ g ∨ ∃ t cs, Blk Y g t cs ∧ t ≠ 61 := fun g e => .inl (by injection e with e; omega)
  refine ⟨hX.set_ j s.v, h.own.kept hG ?_, h.pgs.kept hG hnr, h.vb, h.below.grown hG h.below.size fun k hk => by injection hk with hk; have := h.low; omega, fun x hx => ?_, h.low⟩
  · cases hv : v.ownBlock with
    | none => exact .inl rfl
    | some g =>
      refine .inr fun e => ?_
      have := h.vb g hv
      injection e with e
      omega
  · rcases List.mem_cons.1 hx with rfl | hx
    · refine ⟨ownsRow_base (own_set ho hX (by decide) _) h.below.size, fun g hg' => ?_⟩
      have := (ho.lt g hg').2
      simpa using this
    · exact ((h.fr x hx).kept hG fun g e => .inr ⟨_, cs, by injection e with e; subst e; exact h.blk, by decide⟩).more (by simpa using hsz)
theorem Ost.done {w Y : World} {P : Nat} {v : Value} {rs : List Raw} {qs : List Page} {p : Page} {s0 s1 s2 : Sl} {cs : Array Value} (h : Ost w Y P v rs qs cs [(s2, p.floats), (s1, p.flow), (s0, p.heads)]) {X : World} {o : Obj}
    (hg : (Y.alloc o).grownBy X v.ownBlock) : PgsA X w.heap.size X.heap.size (rs ++ [⟨p.no, p.kind, s0, s1, s2⟩]) (qs ++ [p]) ∧ Below w.heap.size w X := by
  have hsz : Y.heap.size ≤ X.heap.size := by have := hg.size; simp at this; omega
  have hG : Y.grownBy X v.ownBlock := by
    refine ⟨hg.1, hg.2, hg.3, hsz, fun k hk hne => ?_⟩
    rw [hg.block k (by simp; omega) hne]
    exact Below.heap_alloc Y _ k hk
  have hnr : ∀ (B : Nat) g, v.ownBlock = some g → B ≤ g ∨ ∃ t cs, Blk Y g t cs ∧ t ≠ 61 := fun B g e => by
    obtain ⟨cs, hcs⟩ := own_blk h.own e
    exact .inr ⟨_, cs, hcs, by decide⟩
  have hP := h.blk.lt
  have h1 := (h.pgs.kept hG (hnr _)).more (by omega : P ≤ X.heap.size)
  have hf : ∀ x ∈ [(s2, p.floats), (s1, p.flow), (s0, p.heads)], FrA X w.heap.size X.heap.size x.1 x.2 := fun x hx => ((h.fr x hx).kept hG (hnr _)).more hsz
  refine ⟨⟨by have := h1.1; simp [this], fun i r q hr hq => ?_⟩, h.below.grown hG h.below.size fun k hk => (h.own.lt k hk).1⟩
  rcases Nat.lt_or_ge i rs.length with hi | hi
  · rw [List.getElem?_append_left hi] at hr
    rw [List.getElem?_append_left (by have := h1.1; omega)] at hq
    exact h1.2 i r q hr hq
  · rw [List.getElem?_append_right hi] at hr
    rw [List.getElem?_append_right (by have := h1.1; omega)] at hq
    have e1 : i - rs.length = 0 := by
      rcases Nat.eq_zero_or_pos (i - rs.length) with e | e
      · exact e
      · rw [List.getElem?_eq_none (by simp; omega)] at hr; cases hr
    have e2 : i - qs.length = 0 := by have := h1.1; omega
    rw [e1] at hr
    rw [e2] at hq
    simp at hr hq
    subst hr hq
    refine ⟨rfl, rfl, fun k hk => ?_⟩
    match k, hk with
    | 0, _ => exact hf (s0, p.heads) (by simp)
    | 1, _ => exact hf (s1, p.flow) (by simp)
    | 2, _ => exact hf (s2, p.floats) (by simp)
end Go.Proofs.YtbbaaaomncegiaaGreatDoor
