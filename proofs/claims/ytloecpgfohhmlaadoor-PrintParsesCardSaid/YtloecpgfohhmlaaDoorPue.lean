/-
  gatefoldref29.Own: the same pages in memory of their own.
-/
import Derived.Test.YtloecpgfohhmlaaDoorPud
import Derived.Test.YtloecpgfohhmlaaDoorPtd
import Derived.Test.YtloecpgfohhmlaaDoorPnr
namespace Go.Proofs.YtloecpgfohhmlaaDoor
open Go.RowKit Go.Proofs.Prn

/-- Parts behind an own row of parts. -/
theorem run_append_frags (w : World) (base : Nat) (v : Value) (n : Nat) (xs : List Value) (hown : w.ownsRow base 39 7 v n xs) (A : Option Addr) (c : Nat) (l : List Frag) (hA : RowAt encF 7 w A l)
    (hn : n + l.length ≤ 1000000) (hb : base ≤ w.heap.size) :
    ∃ v' w', (Builtin.append_ #[35, 35] 35 #[v, .slice A l.length c]).run Tryd.prog w = .ok v' w' ∧ w'.ownsRow base 39 7 v' (n + l.length) (xs ++ flatL encF l) ∧ w.grownBy w' v.ownBlock := by
  obtain ⟨i0, hi, hz0, hz1, hz2⟩ := info_parts Tryd.infoFrag
  cases A with
  | none =>
    obtain rfl := row_nil_none hA
    refine ⟨v, w, ?_, by simpa [flatL] using hown, World.grownBy.refl _ _⟩
    have ht := Tryd.underlying35
    rcases hown.2 with ⟨rfl, rfl⟩ | ⟨g, cap, cur, rfl, _, _, hnc, _⟩
    · simp [Builtin.append_, run_underlying ht, sizeOf, typeInfo, hi, Builtin.lenOf, Builtin.firstCells]
    · simp [Builtin.append_, run_underlying ht, sizeOf, typeInfo, hi, Builtin.lenOf, Builtin.firstCells, hnc, storeCells]
  | some a =>
    obtain ⟨v', w', h1, h2, h3, _⟩ := run_append_own (P := Tryd.prog) w base 35 35 39 i0 _ 7 56 Tryd.underlying35 hi hz0 hz1 hz2 rfl (by decide) v n xs hown a l.length c (flatL encF l)
      (flatL_length encF_len l) (hA.add encF_len (by decide)) (flatL_cells encF_one l) (by unfold maxLen; omega) (by omega) hb
    exact ⟨v', w', h1, h2, h3⟩
theorem wpList_append_frags {ops : Array Oper} {rest : List Oper} {o : Oper} {a : Act} {w : World} {Q : Exit → Act → World → Prop} (hgd : Region.wanted o (yielded ops a.tmps) = true) (s x : Operand)
    (ho : o.op = .call { callee := .builtin .append, args := #[s, x], argTypes := #[35, 35] }) (hty : o.type = 35)
    (base : Nat) (v : Value) (hs : a.eval s = v) (hown : w.ownsRow base 39 7 v 0 []) (A : Option Addr) (c : Nat) (l : List Frag) (hx : a.eval x = .slice A l.length c) (hA : RowAt encF 7 w A l)
    (hn : l.length ≤ 1000000) (hb : base ≤ w.heap.size)
    (h : ∀ v' w', w'.ownsRow base 39 7 v' l.length (flatL encF l) → w.grownBy w' v.ownBlock → wpList Tryd.prog ops Q rest (a.put o.dst v') w') : wpList Tryd.prog ops Q (o :: rest) a w := by
  obtain ⟨v', w', hr, h1, h2⟩ := run_append_frags w base v 0 [] hown A c l hA (by omega) hb
  rw [Nat.zero_add, List.nil_append] at h1
  refine wpList_step fun K hK => ?_
  rw [if_pos hgd]
  exact Lib.wp_append_run w s x _ _ ho v _ hs hx v' w' (by rw [hty]; exact hr) (hK _ _ (h v' w' h1 h2))
theorem made_frags (w : World) : (w.alloc (.cells #[] 39)).ownsRow w.heap.size 39 7 (.slice (some ⟨w.heap.size, 0, none⟩) 0 0) 0 [] := by
  have := World.ownsRow_made (base := w.heap.size) (e := 39) (size := 7) w #[] 0 (by simp) (Nat.zero_le _) (by simp)
  simpa using this

/-- What the copying round knows: the page's copy in block P; the pages so far; the rows of the page that are copied. -/
structure Ost (w Y : World) (P : Nat) (v : Value) (rs : List Raw) (qs : List Page) (cs : Array Value) (done : List (Sl × List Frag)) : Prop where
  blk : Blk Y P 37 cs
  own : Y.ownsRow w.heap.size 37 5 v rs.length (flatL encR rs)
  pgs : PgsA Y w.heap.size P rs qs
  vb : ∀ g, v.ownBlock = some g → g < P
  below : Below w.heap.size w Y
  fr : ∀ x ∈ done, FrA Y w.heap.size Y.heap.size x.1 x.2
  low : w.heap.size ≤ P
theorem Ost.next {w Y : World} {P : Nat} {v : Value} {rs : List Raw} {qs : List Page} {cs : Array Value} {done : List (Sl × List Frag)} (h : Ost w Y P v rs qs cs done) {X : World} {s : Sl} {l : List Frag}
    (hg : (Y.alloc (.cells #[] 39)).grownBy X (some Y.heap.size)) (ho : X.ownsRow Y.heap.size 39 7 s.v l.length (flatL encF l)) (j : Nat) :
    Ost w (X.setCell ⟨P, j, none⟩ s.v) P v rs qs (cs.setIfInBounds j s.v) ((s, l) :: done) := by
  have hlt := h.blk.lt
  have hX : Blk X P 37 cs := (h.blk.alloc _).grown hg (by simp; omega)
  have hsz : Y.heap.size ≤ X.heap.size := by have := hg.size; simp at this; omega
  have hG : Y.grownBy (X.setCell ⟨P, j, none⟩ s.v) (some P) := by
    refine ⟨hg.1, hg.2, hg.3, by simpa using hsz, fun k hk hne => ?_⟩
    have hkP : k ≠ P := fun e => hne (by rw [e])
    rw [heap_setCell_other X ⟨P, j, none⟩ k s.v hkP, hg.block k (by simp; omega) (by simp; omega)]
    exact Below.heap_alloc Y _ k hk
  have hnr : ∀ g, some P = some g → P ≤ g ∨ ∃ t cs, Blk Y g t cs ∧ t ≠ 39 := fun g e => .inl (by injection e with e; omega)
  refine ⟨hX.set_ j s.v, h.own.kept hG ?_, h.pgs.kept hG hnr, h.vb, h.below.grown hG h.below.size fun k hk => by injection hk with hk; have := h.low; omega, fun x hx => ?_, h.low⟩
  · cases hv : v.ownBlock with
    | none => exact .inl rfl
    | some g =>
      refine .inr fun e => ?_
      have := h.vb g hv
      injection e with e
      omega
  · rcases List.mem_cons.1 hx with rfl | hx
    · refine ⟨ownsRow_base (own_set ho hX (by decide) _) h.below.size, fun g hg' => ?_⟩
      have := (ho.lt g hg').2
      simpa using this
    · exact ((h.fr x hx).kept hG fun g e => .inr ⟨_, cs, by injection e with e; subst e; exact h.blk, by decide⟩).more (by simpa using hsz)
theorem Ost.done {w Y : World} {P : Nat} {v : Value} {rs : List Raw} {qs : List Page} {p : Page} {s0 s1 s2 : Sl} {cs : Array Value} (h : Ost w Y P v rs qs cs [(s2, p.floats), (s1, p.flow), (s0, p.heads)]) {X : World} {o : Obj}
    (hg : (Y.alloc o).grownBy X v.ownBlock) : PgsA X w.heap.size X.heap.size (rs ++ [⟨p.no, p.kind, s0, s1, s2⟩]) (qs ++ [p]) ∧ Below w.heap.size w X := by
  have hsz : Y.heap.size ≤ X.heap.size := by have := hg.size; simp at this; omega
  have hG : Y.grownBy X v.ownBlock := by
    refine ⟨hg.1, hg.2, hg.3, hsz, fun k hk hne => ?_⟩
    rw [hg.block k (by simp; omega) hne]
    exact Below.heap_alloc Y _ k hk
  have hnr : ∀ (B : Nat) g, v.ownBlock = some g → B ≤ g ∨ ∃ t cs, Blk Y g t cs ∧ t ≠ 39 := fun B g e => by
    obtain ⟨cs, hcs⟩ := own_blk h.own e
    exact .inr ⟨_, cs, hcs, by decide⟩
  have hP := h.blk.lt
  have h1 := (h.pgs.kept hG (hnr _)).more (by omega : P ≤ X.heap.size)
  have hf : ∀ x ∈ [(s2, p.floats), (s1, p.flow), (s0, p.heads)], FrA X w.heap.size X.heap.size x.1 x.2 := fun x hx => ((h.fr x hx).kept hG (hnr _)).more hsz
  refine ⟨⟨by have := h1.1; simp [this], fun i r q hr hq => ?_⟩, h.below.grown hG h.below.size fun k hk => (h.own.lt k hk).1⟩
  rcases Nat.lt_or_ge i rs.length with hi | hi
  · rw [List.getElem?_append_left hi] at hr
    rw [List.getElem?_append_left (by have := h1.1; omega)] at hq
    exact h1.2 i r q hr hq
  · rw [List.getElem?_append_right hi] at hr
    rw [List.getElem?_append_right (by have := h1.1; omega)] at hq
    have e1 : i - rs.length = 0 := by
      rcases Nat.eq_zero_or_pos (i - rs.length) with e | e
      · exact e
      · rw [List.getElem?_eq_none (by simp; omega)] at hr; cases hr
    have e2 : i - qs.length = 0 := by have := h1.1; omega
    rw [e1] at hr
    rw [e2] at hq
    simp at hr hq
    subst hr hq
    refine ⟨rfl, rfl, fun k hk => ?_⟩
    match k, hk with
    | 0, _ => exact hf (s0, p.heads) (by simp)
    | 1, _ => exact hf (s1, p.flow) (by simp)
    | 2, _ => exact hf (s2, p.floats) (by simp)

set_option maxHeartbeats 8000000 in
set_option maxRecDepth 100000 in
theorem own_any (A : Option Addr) (c : Nat) (ps : List Page) (w : World) (hA : PagesAt w A ps) (hn : ps.length ≤ 10000) (hsm : ∀ p ∈ ps, PgSmall p) :
    Calls Tryd.prog 9 #[.slice A ps.length c] w fun e w' => ∃ E d, e = .returned (.slice E ps.length d) ∧ PagesAt w' E ps ∧ Below w.heap.size w w' := by
  obtain ⟨rr, hrl, hrow, hpg⟩ := hA
  have HROW := Lib.hid hrow
  have HPG := Lib.hid hpg
  have HRL := Lib.hid hrl
  have HSM := Lib.hid hsm
  clear hrow hpg hrl hsm
  go_enter Tryd.func9, Tryd.ntmps9
  go_wp2_with fail
  go_loopw [3, 4] (fun o i wr => ∃ (k : Nat) (v : Sl) (rs : List Raw), i = .int .i64 k ∧ o = v.v ∧ k ≤ ps.length ∧ Hid (rs.length = k) ∧ Hid (wr.ownsRow w.heap.size 37 5 v.v rs.length (flatL encR rs)) ∧ Hid (PgsA wr w.heap.size wr.heap.size rs (ps.take k)) ∧ Hid (Below w.heap.size w wr)) (fun _ i _ => ps.length - (intOf i).toNat)
  case atStart => exact ⟨0, Sl.nil, [], rfl, rfl, Nat.zero_le _, by show _ = _; rfl, World.ownsRow_nil _ _ _ _, ⟨by simp, fun i r p hr => by simp at hr⟩, Below.refl _ _⟩
  case round =>
    obtain ⟨k, v, rs, rfl, rfl, hk, HK, HO, HG, HB⟩ := hrel
    by_cases hlt : k < ps.length
    · have hx : ps[k]? = some ps[k] := List.getElem?_eq_getElem hlt
      have hpm := HSM.out ps[k] (List.getElem_mem hlt)
      have et : ps.take (k + 1) = ps.take k ++ [ps[k]] := List.take_succ_eq_append_getElem hlt
      have hlr : k < rr.length := by rw [HRL.out]; exact hlt
      have hr : rr[k]? = some rr[k] := List.getElem?_eq_getElem hlr
      have hpr := HPG.out k _ _ hr hx
      generalize ps[k] = p at *
      generalize rr[k] = r at *
      obtain ⟨rno, rkind, ⟨sA, sn, sc⟩, ⟨tA, tn, tc⟩, ⟨uA, un, uc⟩⟩ := r
      obtain ⟨hno, hkind, ⟨e1, q1⟩, ⟨e2, q2⟩, ⟨e3, q3⟩⟩ := hpr
      simp only at hno hkind e1 e2 e3 q1 q2 q3
      subst hno hkind e1 e2 e3
      obtain ⟨b2, off, rfl, hbl, k0, k1, k2, k3, k4⟩ := (HROW.out.below HB.out).raw hr
      simp only [Sl.v] at k0 k1 k2 k3 k4
      have hlt' : (k : Int) < (ps.length : Int) := by omega
      have i0 : (0 : Int) ≤ (k : Int) := by omega
      have HT := Lib.hid et
      have HPM := Lib.hid hpm
      have hO0 : Ost w (wr.alloc (.cells #[.int .i64 p.no, .int .i64 p.kind, .slice sA p.heads.length sc, .slice tA p.flow.length tc, .slice uA p.floats.length uc] 37)) wr.heap.size v.v rs (ps.take k) #[.int .i64 p.no, .int .i64 p.kind, .slice sA p.heads.length sc, .slice tA p.flow.length tc, .slice uA p.floats.length uc] [] :=
        ⟨Blk.new wr _ _, HO.out.alloc _, (HG.out.kf ((KF.refl _).alloc _)), fun g hg => (HO.out.lt g hg).2, bl HB.out _, (fun x hx => by cases hx), HB.out.size⟩
      have HX0 := Lib.hid hO0
      clear hx hpm et hr hO0
      go_wp2_with (at_builtin; refine gen_world (F := fun W => ∃ Y : World, W = Y.alloc (.cells #[] 39) ∧ Ost w Y wr.heap.size v.v rs (ps.take k) #[.int .i64 p.no, .int .i64 p.kind, .slice sA p.heads.length sc, .slice tA p.flow.length tc, .slice uA p.floats.length uc] [] ∧ Y.heap.size = wr.heap.size + 1) (G := fun W => wpList _ _ _ _ _ W) _ ⟨_, rfl, HX0.out, by simp⟩ ?_; rintro _ ⟨Y0, rfl, hY0, hs0⟩; refine wpList_append_frags (by rfl) _ _ (by rfl) (by rfl) (wr.heap.size + 1) (.slice (some ⟨wr.heap.size + 1, 0, none⟩) 0 0) (by rfl) (by have := made_frags Y0; rw [hs0] at this; exact this) sA sc p.heads (by rfl) (q1.below (bl hY0.below _)) (by have := HPM.out.1; omega) (by simp; omega) ?_)
      intro v0 X0 own0 grow0
      rw [← hs0] at own0
      have gr0 : (Y0.alloc (.cells #[] 39)).grownBy X0 (some Y0.heap.size) := by rw [hs0]; exact grow0
      obtain ⟨E0, d0, rfl, _, _⟩ := RowAt.of_own encF_len own0
      have hO1 : Ost w (X0.setCell ⟨wr.heap.size, 2, none⟩ (.slice E0 p.heads.length d0)) wr.heap.size v.v rs (ps.take k) #[.int .i64 p.no, .int .i64 p.kind, .slice E0 p.heads.length d0, .slice tA p.flow.length tc, .slice uA p.floats.length uc] [(⟨E0, p.heads.length, d0⟩, p.heads)] := hY0.next (s := ⟨E0, p.heads.length, d0⟩) gr0 own0 2
      have hB0 : Blk X0 wr.heap.size 37 #[.int .i64 p.no, .int .i64 p.kind, .slice sA p.heads.length sc, .slice tA p.flow.length tc, .slice uA p.floats.length uc] := (hY0.blk.alloc _).grown gr0 (by have := hY0.blk.lt; simp; omega)
      have c0 := hB0.cell 2
      have z0 := hB0.frozen 2
      simp only [List.getElem?_toArray, List.getElem?_cons_zero, List.getElem?_cons_succ] at c0
      have y0 : ∀ o, ((X0.setCell ⟨wr.heap.size, 2, none⟩ (.slice E0 p.heads.length d0)).alloc o).cell? ⟨wr.heap.size, 3, none⟩ = some (.slice tA p.flow.length tc) := fun o => (hO1.blk.alloc o).cell 3
      have HX1 := Lib.hid hO1
      clear hO1 hB0 own0 grow0 gr0 hY0 HX0
      go_wp2_with (at_builtin; refine gen_world (F := fun W => ∃ Y : World, W = Y.alloc (.cells #[] 39) ∧ Ost w Y wr.heap.size v.v rs (ps.take k) #[.int .i64 p.no, .int .i64 p.kind, .slice E0 p.heads.length d0, .slice tA p.flow.length tc, .slice uA p.floats.length uc] [(⟨E0, p.heads.length, d0⟩, p.heads)] ∧ Y.heap.size = X0.heap.size) (G := fun W => wpList _ _ _ _ _ W) _ ⟨_, rfl, HX1.out, by simp⟩ ?_; rintro _ ⟨Y1, rfl, hY1, hs1⟩; refine wpList_append_frags (by rfl) _ _ (by rfl) (by rfl) (X0.heap.size) (.slice (some ⟨X0.heap.size, 0, none⟩) 0 0) (by rfl) (by have := made_frags Y1; rw [hs1] at this; exact this) tA tc p.flow (by rfl) (q2.below (bl hY1.below _)) (by have := HPM.out.2.1; omega) (by simp; omega) ?_)
      intro v1 X1 own1 grow1
      rw [← hs1] at own1
      have gr1 : (Y1.alloc (.cells #[] 39)).grownBy X1 (some Y1.heap.size) := by rw [hs1]; exact grow1
      obtain ⟨E1, d1, rfl, _, _⟩ := RowAt.of_own encF_len own1
      have hO2 : Ost w (X1.setCell ⟨wr.heap.size, 3, none⟩ (.slice E1 p.flow.length d1)) wr.heap.size v.v rs (ps.take k) #[.int .i64 p.no, .int .i64 p.kind, .slice E0 p.heads.length d0, .slice E1 p.flow.length d1, .slice uA p.floats.length uc] [(⟨E1, p.flow.length, d1⟩, p.flow), (⟨E0, p.heads.length, d0⟩, p.heads)] := hY1.next (s := ⟨E1, p.flow.length, d1⟩) gr1 own1 3
      have hB1 : Blk X1 wr.heap.size 37 #[.int .i64 p.no, .int .i64 p.kind, .slice E0 p.heads.length d0, .slice tA p.flow.length tc, .slice uA p.floats.length uc] := (hY1.blk.alloc _).grown gr1 (by have := hY1.blk.lt; simp; omega)
      have c1 := hB1.cell 3
      have z1 := hB1.frozen 3
      simp only [List.getElem?_toArray, List.getElem?_cons_zero, List.getElem?_cons_succ] at c1
      have y1 : ∀ o, ((X1.setCell ⟨wr.heap.size, 3, none⟩ (.slice E1 p.flow.length d1)).alloc o).cell? ⟨wr.heap.size, 4, none⟩ = some (.slice uA p.floats.length uc) := fun o => (hO2.blk.alloc o).cell 4
      have HX2 := Lib.hid hO2
      clear hO2 hB1 own1 grow1 gr1 hY1 HX1
      go_wp2_with (at_builtin; refine gen_world (F := fun W => ∃ Y : World, W = Y.alloc (.cells #[] 39) ∧ Ost w Y wr.heap.size v.v rs (ps.take k) #[.int .i64 p.no, .int .i64 p.kind, .slice E0 p.heads.length d0, .slice E1 p.flow.length d1, .slice uA p.floats.length uc] [(⟨E1, p.flow.length, d1⟩, p.flow), (⟨E0, p.heads.length, d0⟩, p.heads)] ∧ Y.heap.size = X1.heap.size) (G := fun W => wpList _ _ _ _ _ W) _ ⟨_, rfl, HX2.out, by simp⟩ ?_; rintro _ ⟨Y2, rfl, hY2, hs2⟩; refine wpList_append_frags (by rfl) _ _ (by rfl) (by rfl) (X1.heap.size) (.slice (some ⟨X1.heap.size, 0, none⟩) 0 0) (by rfl) (by have := made_frags Y2; rw [hs2] at this; exact this) uA uc p.floats (by rfl) (q3.below (bl hY2.below _)) (by have := HPM.out.2.2; omega) (by simp; omega) ?_)
      intro v2 X2 own2 grow2
      rw [← hs2] at own2
      have gr2 : (Y2.alloc (.cells #[] 39)).grownBy X2 (some Y2.heap.size) := by rw [hs2]; exact grow2
      obtain ⟨E2, d2, rfl, _, _⟩ := RowAt.of_own encF_len own2
      have hO3 : Ost w (X2.setCell ⟨wr.heap.size, 4, none⟩ (.slice E2 p.floats.length d2)) wr.heap.size v.v rs (ps.take k) #[.int .i64 p.no, .int .i64 p.kind, .slice E0 p.heads.length d0, .slice E1 p.flow.length d1, .slice E2 p.floats.length d2] [(⟨E2, p.floats.length, d2⟩, p.floats), (⟨E1, p.flow.length, d1⟩, p.flow), (⟨E0, p.heads.length, d0⟩, p.heads)] := hY2.next (s := ⟨E2, p.floats.length, d2⟩) gr2 own2 4
      have hB2 : Blk X2 wr.heap.size 37 #[.int .i64 p.no, .int .i64 p.kind, .slice E0 p.heads.length d0, .slice E1 p.flow.length d1, .slice uA p.floats.length uc] := (hY2.blk.alloc _).grown gr2 (by have := hY2.blk.lt; simp; omega)
      have c2 := hB2.cell 4
      have z2 := hB2.frozen 4
      simp only [List.getElem?_toArray, List.getElem?_cons_zero, List.getElem?_cons_succ] at c2
      have y20 : (X2.setCell ⟨wr.heap.size, 4, none⟩ (.slice E2 p.floats.length d2)).cell? ⟨wr.heap.size, 0, none⟩ = some (.int .i64 p.no) := hO3.blk.cell 0
      have y21 : (X2.setCell ⟨wr.heap.size, 4, none⟩ (.slice E2 p.floats.length d2)).cell? ⟨wr.heap.size, 1, none⟩ = some (.int .i64 p.kind) := hO3.blk.cell 1
      have y22 : (X2.setCell ⟨wr.heap.size, 4, none⟩ (.slice E2 p.floats.length d2)).cell? ⟨wr.heap.size, 2, none⟩ = some (.slice E0 p.heads.length d0) := hO3.blk.cell 2
      have y23 : (X2.setCell ⟨wr.heap.size, 4, none⟩ (.slice E2 p.floats.length d2)).cell? ⟨wr.heap.size, 3, none⟩ = some (.slice E1 p.flow.length d1) := hO3.blk.cell 3
      have y24 : (X2.setCell ⟨wr.heap.size, 4, none⟩ (.slice E2 p.floats.length d2)).cell? ⟨wr.heap.size, 4, none⟩ = some (.slice E2 p.floats.length d2) := hO3.blk.cell 4
      have HX3 := Lib.hid hO3
      clear hO3 hB2 own2 grow2 gr2 hY2 HX2
      go_wp2_with (at_builtin; refine gen_world (F := fun W => ∃ Y : World, W = Y.alloc (.cells #[.int .i64 p.no, .int .i64 p.kind, .slice E0 p.heads.length d0, .slice E1 p.flow.length d1, .slice E2 p.floats.length d2] 37) ∧ Ost w Y wr.heap.size v.v rs (ps.take k) #[.int .i64 p.no, .int .i64 p.kind, .slice E0 p.heads.length d0, .slice E1 p.flow.length d1, .slice E2 p.floats.length d2] [(⟨E2, p.floats.length, d2⟩, p.floats), (⟨E1, p.flow.length, d1⟩, p.flow), (⟨E0, p.heads.length, d0⟩, p.heads)] ∧ Y.heap.size = X2.heap.size) (G := fun W => wpList _ _ _ _ _ W) _ ⟨_, rfl, HX3.out, by simp⟩ ?_; rintro _ ⟨Y3, rfl, hY3, hs3⟩; refine wpList_append_pages (by rfl) _ _ (by rfl) (by rfl) w.heap.size v.v rs (by rfl) (hY3.own.alloc _) (some ⟨X2.heap.size, 0, none⟩) 1 1 [⟨p.no, p.kind, ⟨E0, p.heads.length, d0⟩, ⟨E1, p.flow.length, d1⟩, ⟨E2, p.floats.length, d2⟩⟩] (by rfl) rfl (by have := RowAt.new encR_len Y3 37 [(⟨p.no, p.kind, ⟨E0, p.heads.length, d0⟩, ⟨E1, p.flow.length, d1⟩, ⟨E2, p.floats.length, d2⟩⟩ : Raw)]; rw [hs3] at this; exact this) (by have := HK.out; simp; omega) (bl hY3.below _).size ?_)
      intro v3 X3 own3 grow3
      obtain ⟨hG3, hB3⟩ := hY3.done grow3
      have own3' : X3.ownsRow w.heap.size 37 5 v3 (rs ++ [(⟨p.no, p.kind, ⟨E0, p.heads.length, d0⟩, ⟨E1, p.flow.length, d1⟩, ⟨E2, p.floats.length, d2⟩⟩ : Raw)]).length (flatL encR (rs ++ [(⟨p.no, p.kind, ⟨E0, p.heads.length, d0⟩, ⟨E1, p.flow.length, d1⟩, ⟨E2, p.floats.length, d2⟩⟩ : Raw)])) := by
        rw [List.length_append]; exact own3
      obtain ⟨E3, d3, rfl, _, _⟩ := RowAt.of_own encR_len own3'
      have HK3 : Hid ((rs ++ [(⟨p.no, p.kind, ⟨E0, p.heads.length, d0⟩, ⟨E1, p.flow.length, d1⟩, ⟨E2, p.floats.length, d2⟩⟩ : Raw)]).length = k + 1) := by show _ = _; rw [List.length_append, HK.out]; rfl
      have HO3 := Lib.hid own3'
      rw [← HT.out] at hG3
      have HG3 := Lib.hid hG3
      have HB3 := Lib.hid hB3
      clear own3 own3' grow3 hG3 hB3 hY3 HX3 HO HG HB k0 k1 k2 k3 k4 q1 q2 q3
      generalize rs ++ [(⟨p.no, p.kind, ⟨E0, p.heads.length, d0⟩, ⟨E1, p.flow.length, d1⟩, ⟨E2, p.floats.length, d2⟩⟩ : Raw)] = rs' at *
      go_wp2_with fail
      go_roundw
      case rel => exact ⟨k + 1, ⟨E3, rs'.length, d3⟩, rs', by go_num, rfl, by omega, HK3.out, HO3.out, HG3.out, HB3.out⟩
      case measure => simp [intOf]; omega
    · have hlt' : ¬ (k : Int) < (ps.length : Int) := by omega
      have e : ps.take k = ps := List.take_of_length_le (by omega)
      have hk' : rs.length = ps.length := by have := HK.out; omega
      have hG := HG.out
      rw [e] at hG
      obtain ⟨hv, hP⟩ := pages_of HO.out rfl hG
      obtain ⟨E, n, d⟩ := v
      simp only at hv hP
      subst hv
      have HP := Lib.hid hP
      clear hP e hG HG HO
      simp only [Sl.v]
      go_wp2_with fail
      go_ret
      exact ⟨E, ⟨d, rfl⟩, HP.out, HB.out⟩
end Go.Proofs.YtloecpgfohhmlaaDoor
