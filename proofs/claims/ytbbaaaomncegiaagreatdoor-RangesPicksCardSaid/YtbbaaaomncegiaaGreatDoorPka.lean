/-
  slices.Clone at parts of a page; the function value of ranges.Pick: of a page that is chosen, a copy in memory of the call's own; of another one nothing.
-/
import Derived.Test.YtbbaaaomncegiaaGreatDoorPgm
import Derived.Test.YtbbaaaomncegiaaGreatDoorRgd
import Derived.Deep.RegionHeld3
import Derived.Deep.RegionLaw
import Derived.Deep.CutRange
namespace Go.Proofs.YtbbaaaomncegiaaGreatDoor
open Go.RowKit Go.Proofs.Spn Go.Proofs.Rng Go.Proofs.Prn

set_option maxHeartbeats 2000000 in
theorem fclone_any (A : Option Addr) (c : Nat) (l : List Frag) (w : World) (hA : RowAt encF 7 w A l) (hn : l.length ≤ 1000000) :
    Calls Tryz.prog 40 #[.slice A l.length c] w fun e w' => ∃ s : Sl, e = .returned s.v ∧ w'.ownsRow w.heap.size 61 7 s.v l.length (flatL encF l) ∧ Below w.heap.size w w' := by
  cases A with
  | none =>
    obtain rfl := row_nil_none hA
    have q := fun (w : World) (n c : Nat) => Lib.run_eql_slice_nil (P := Tryz.prog) w 36 61 none n c 0 0 Tryz.underlying36
    go_enter Tryz.func40, Tryz.ntmps40
    go_wp2
    go_ret
    exact ⟨Sl.nil, rfl, World.ownsRow_nil _ _ _ _, Below.refl _ _⟩
  | some a =>
    have q := fun (w : World) (n c : Nat) => Lib.run_eql_slice_nil (P := Tryz.prog) w 36 61 (some a) n c 0 0 Tryz.underlying36
    have HA := Lib.hid hA
    clear hA
    go_enter Tryz.func40, Tryz.ntmps40
    go_wp2_with (at_builtin; refine wpList_append_frags (by rfl) _ _ (by rfl) (by rfl) w.heap.size _ (by rfl) (made_frags w) (some a) c l (by rfl) (HA.out.below (bl (Below.refl _ w) _)) hn (by simp) ?_)
    intro v' w1 hown hgrow
    obtain ⟨E, d, rfl, _⟩ := RowAt.of_own encF_len hown
    go_wp2
    go_ret
    exact ⟨⟨E, l.length, d⟩, rfl, hown, (bl (Below.refl _ w) _).grown hgrow (by simp) (by intro k hk; simp [Value.ownBlock] at hk; omega)⟩

theorem sl_clone {W0 : World} {s : Sl} {l : List Frag} (h : SlAt W0 s l) (hn : l.length ≤ 1000000) (W : World) (hb : Below W0.heap.size W0 W) :
    Calls Tryz.prog 40 #[s.v] W fun e w' => ∃ t : Sl, e = .returned t.v ∧ w'.ownsRow W.heap.size 61 7 t.v l.length (flatL encF l) ∧ Below W.heap.size W w' := by
  obtain ⟨A, n, c⟩ := s
  obtain ⟨h1, h2⟩ := h
  simp only at h1 h2
  subst h1
  exact fclone_any A c l W (h2.below hb) hn

/-- What the function value gives of a page. -/
def PickGives (ls : List Sp) (p : Page) (w : World) (e : Ending) (w' : World) : Prop :=
  ∃ (v : Sl) (rs : List Raw), e = .returned v.v ∧ w'.ownsRow w.heap.size 38 5 v.v rs.length (flatL encR rs) ∧ PgsA w' w.heap.size w'.heap.size rs (if hasL ls p.no = true then [p] else []) ∧ Below w.heap.size w w'
theorem PickGives.no {ls : List Sp} {p : Page} {w w' : World} (h : hasL ls p.no = false) (hb : Below w.heap.size w w') : PickGives ls p w (.returned (.slice none 0 0)) w' := by
  refine ⟨Sl.nil, [], rfl, World.ownsRow_nil _ _ _ _, ?_, hb⟩
  rw [h]
  exact ⟨rfl, fun i r p hr => by simp at hr⟩

theorem pick_stores {w W : World} {P : Nat} {no kind : Int} {v0 v1 v2 : Value} {t0 t1 t2 : Sl} {l0 l1 l2 : List Frag} (hP : Blk W P 38 #[.int .i64 no, .int .i64 kind, v0, v1, v2]) (hlow : w.heap.size ≤ P) (hB : Below w.heap.size w W)
    (h0 : FrA W w.heap.size W.heap.size t0 l0) (h1 : FrA W w.heap.size W.heap.size t1 l1) (h2 : FrA W w.heap.size W.heap.size t2 l2) {X : World} (hX : X = ((W.setCell ⟨P, 2, none⟩ t0.v).setCell ⟨P, 3, none⟩ t1.v).setCell ⟨P, 4, none⟩ t2.v) :
    Blk X P 38 #[.int .i64 no, .int .i64 kind, t0.v, t1.v, t2.v] ∧ FrA X w.heap.size X.heap.size t0 l0 ∧ FrA X w.heap.size X.heap.size t1 l1 ∧ FrA X w.heap.size X.heap.size t2 l2 ∧ Below w.heap.size w X := by
  have k : KF W X := by
    rw [hX]
    exact (((KF.refl W).setCell hP (by decide) _).setCell (hP.set_ 2 _) (by decide) _).setCell ((hP.set_ 2 _).set_ 3 _) (by decide) _
  refine ⟨?_, (FrA.kf k h0).more k.size, (FrA.kf k h1).more k.size, (FrA.kf k h2).more k.size, ?_⟩
  · rw [hX]
    have := ((hP.set_ 2 t0.v).set_ 3 t1.v).set_ 4 t2.v
    simpa using this
  · rw [hX]
    exact bset (bset (bset hB hlow _) hlow _) hlow _
theorem pick_gives {w W : World} {ls : List Sp} {p : Page} {t0 t1 t2 : Sl} (hh : hasL ls p.no = true)
    (h0 : FrA W w.heap.size W.heap.size t0 p.heads) (h1 : FrA W w.heap.size W.heap.size t1 p.flow) (h2 : FrA W w.heap.size W.heap.size t2 p.floats) (hB : Below w.heap.size w W) :
    PickGives ls p w (.returned (.slice (some ⟨W.heap.size, 0, none⟩) 1 1)) (W.alloc (.cells #[.int .i64 p.no, .int .i64 p.kind, t0.v, t1.v, t2.v] 38)) := by
  have k : KF W (W.alloc (.cells #[.int .i64 p.no, .int .i64 p.kind, t0.v, t1.v, t2.v] 38)) := (KF.refl W).alloc _
  refine ⟨⟨some ⟨W.heap.size, 0, none⟩, 1, 1⟩, [⟨p.no, p.kind, t0, t1, t2⟩], rfl, ?_, ?_, bl hB _⟩
  · exact ⟨rfl, .inr ⟨W.heap.size, 1, #[.int .i64 p.no, .int .i64 p.kind, t0.v, t1.v, t2.v], rfl, hB.size, heap_alloc_new W _, Nat.le_refl _, by decide, rfl, rfl⟩⟩
  · rw [if_pos hh]
    refine ⟨rfl, fun i r q hr hq => ?_⟩
    match i, hr, hq with
    | 0, hr, hq =>
      simp at hr hq
      subst hr hq
      refine ⟨rfl, rfl, fun j hj => ?_⟩
      match j, hj with
      | 0, _ => exact (FrA.kf k h0).more k.size
      | 1, _ => exact (FrA.kf k h1).more k.size
      | 2, _ => exact (FrA.kf k h2).more k.size
    | i + 1, hr, hq => simp at hr

set_option maxHeartbeats 16000000 in
set_option maxRecDepth 100000 in
theorem pick1_any (cb : Nat) (AL : Option Addr) (cl : Nat) (ls : List Sp) (r : Raw) (p : Page) (w : World) (hc : w.cell? ⟨cb, 0, none⟩ = some (.slice AL ls.length cl)) (hL : Spans w AL ls) (hp : PgAt w r p) (hsm : PgSmall p) (hn : ls.length ≤ 900000) :
    Calls Tryz.prog 39 #[.agg #[.int .i64 r.no, .int .i64 r.kind, r.h.v, r.f.v, r.l.v], .pointer (some ⟨cb, 0, none⟩)] w (PickGives ls p w) := by
  obtain ⟨rno, rkind, sh, sf, sl⟩ := r
  obtain ⟨hno, hkind, q1, q2, q3⟩ := hp
  simp only at hno hkind q1 q2 q3
  subst hno hkind
  have hB0 : Below w.heap.size w (w.alloc (.cells #[.int .i64 p.no, .int .i64 p.kind, sh.v, sf.v, sl.v] 38)) := bl (Below.refl _ _) _
  have HC := Lib.hid (rhas_any AL cl ls p.no _ (hL.below hB0) (by omega))
  have hc1 := cell_more hc (.cells #[.int .i64 p.no, .int .i64 p.kind, sh.v, sf.v, sl.v] 38)
  have Q1 := Lib.hid (sl_clone q1 hsm.1)
  have Q2 := Lib.hid (sl_clone q2 hsm.2.1)
  have Q3 := Lib.hid (sl_clone q3 hsm.2.2)
  clear hc hL q1 q2 q3 hsm
  cases hh : hasL ls p.no with
  | false =>
    rw [hh] at HC
    have HN := Lib.hid hh
    clear hh
    go_enter Tryz.func39, Tryz.ntmps39
    go_wp2_with fail
    refine HC.out.mono ?_
    rintro e w1 ⟨rfl, hb1⟩
    have HB1 := Lib.hid (bt hB0 hb1)
    clear hb1
    go_wp2_with fail
    go_ret
    exact PickGives.no HN.out HB1.out
  | true =>
    rw [hh] at HC
    have HH := Lib.hid hh
    clear hh
    go_enter Tryz.func39, Tryz.ntmps39
    go_wp2_with fail
    refine HC.out.mono ?_
    rintro e w1 ⟨rfl, hb1⟩
    have HB1 := Lib.hid (bt hB0 hb1)
    have HP1 : Hid (Blk w1 w.heap.size 38 #[.int .i64 p.no, .int .i64 p.kind, sh.v, sf.v, sl.v]) := (Blk.new w _ _).keep hb1
    clear hb1 hc1 HC
    go_upto_region 3 with fail
    go_cut [3] from 9 to 20 (fun q3 wx => ∃ (t0 t1 t2 : Sl), q3 = .slice none 0 0 ∧ Hid (Blk wx w.heap.size 38 #[.int .i64 p.no, .int .i64 p.kind, t0.v, t1.v, t2.v]) ∧ Hid (FrA wx w.heap.size wx.heap.size t0 p.heads) ∧ Hid (FrA wx w.heap.size wx.heap.size t1 p.flow) ∧ Hid (FrA wx w.heap.size wx.heap.size t2 p.floats) ∧ Hid (Below w.heap.size w wx))
    case first =>
      have hlt := HP1.out.lt
      have KEEP : Hid (∀ W, Below w1.heap.size w1 W → W.cell? ⟨w.heap.size, 2, none⟩ = some sh.v ∧ W.cell? ⟨w.heap.size, 3, none⟩ = some sf.v ∧ W.cell? ⟨w.heap.size, 4, none⟩ = some sl.v ∧ W.frozen? ⟨w.heap.size, 2, none⟩ = false ∧ W.frozen? ⟨w.heap.size, 3, none⟩ = false ∧ W.frozen? ⟨w.heap.size, 4, none⟩ = false) := fun W h => ⟨(HP1.out.keep h).cell 2, (HP1.out.keep h).cell 3, (HP1.out.keep h).cell 4, (HP1.out.keep h).frozen 2, (HP1.out.keep h).frozen 3, (HP1.out.keep h).frozen 4⟩
      have ON : Hid (∀ W, Below w1.heap.size w1 W → Below w.heap.size w W) := fun W h => bt HB1.out h
      obtain ⟨k2, k3, k4, k5, k6, k7⟩ := KEEP.out w1 (Below.refl _ _)
      generalize sh.v = v0 at *
      generalize sf.v = v1 at *
      generalize sl.v = v2 at *
      go_region_law ((first
          | (go_simp; go_at_call 40; with_reducible (refine Calls.mono (Q1.out _ (ON.out _ (by repeat (first | exact Below.refl _ _ | refine bd ?_ | refine bt ?_ (by assumption))))) ?_); rintro e wA ⟨t0, rfl, ho0, hbA⟩; obtain ⟨k2, k3, k4, k5, k6, k7⟩ := KEEP.out wA (by repeat (first | exact Below.refl _ _ | refine bd ?_ | refine bt ?_ (by assumption))))
          | (go_simp; go_at_call 40; with_reducible (refine Calls.mono (Q2.out _ (ON.out _ (by repeat (first | exact Below.refl _ _ | refine bd ?_ | refine bt ?_ (by assumption))))) ?_); rintro e wB ⟨t1, rfl, ho1, hbB⟩; obtain ⟨k2, k3, k4, k5, k6, k7⟩ := KEEP.out wB (by repeat (first | exact Below.refl _ _ | refine bd ?_ | refine bt ?_ (by assumption))))
          | (go_simp; go_at_call 40; with_reducible (refine Calls.mono (Q3.out _ (ON.out _ (by repeat (first | exact Below.refl _ _ | refine bd ?_ | refine bt ?_ (by assumption))))) ?_); rintro e wC ⟨t2, rfl, ho2, hbC⟩; obtain ⟨k2, k3, k4, k5, k6, k7⟩ := KEEP.out wC (by repeat (first | exact Below.refl _ _ | refine bd ?_ | refine bt ?_ (by assumption))))))
      all_goals
        have hf0 : FrA wC w.heap.size wC.heap.size t0 p.heads := (FrA.kf (KF.below (by repeat (first | exact Below.refl _ _ | refine bt ?_ (by assumption)))) (FrA.of_own ho0 (by first | exact HB1.out.size))).more (by have := hbB.size; have := hbC.size; omega)
        have hf1 : FrA wC w.heap.size wC.heap.size t1 p.flow := (FrA.kf (KF.below (by repeat (first | exact Below.refl _ _ | refine bt ?_ (by assumption)))) (FrA.of_own ho1 (by have := HB1.out.size; have := hbA.size; simp at this; omega))).more (by have := hbC.size; omega)
        have hf2 : FrA wC w.heap.size wC.heap.size t2 p.floats := FrA.of_own ho2 (by have := HB1.out.size; have := hbA.size; have := hbB.size; simp at *; omega)
        have hbl : Below w1.heap.size w1 wC := by repeat (first | exact Below.refl _ _ | refine bd ?_ | refine bt ?_ (by assumption))
        have hP3 : Blk wC w.heap.size 38 #[.int .i64 p.no, .int .i64 p.kind, v0, v1, v2] := HP1.out.keep hbl
        obtain ⟨z0, z1, z2, z3, z4⟩ := pick_stores (w := w) hP3 (Nat.le_refl _) (bt HB1.out hbl) hf0 hf1 hf2 rfl
        have Z := Lib.hid (And.intro z0 (And.intro z1 (And.intro z2 (And.intro z3 z4))))
        clear z0 z1 z2 z3 z4 hf0 hf1 hf2 hbl hP3 k2 k3 k4 k5 k6 k7 hbA hbB hbC ho0 ho1 ho2
        go_wp2_with fail
        go_meet
        exact ⟨t0, t1, t2, rfl, Z.out.1, Z.out.2.1, Z.out.2.2.1, Z.out.2.2.2.1, Z.out.2.2.2.2⟩
    case rest =>
      obtain ⟨t0, t1, t2, rfl, Z0, Z1, Z2, Z3, Z4⟩ := hcut
      obtain ⟨x0, x1, x2, x3, x4⟩ := Z0.out.facts5
      go_wp2_with fail
      go_ret
      exact pick_gives HH.out Z1.out Z2.out Z3.out Z4.out
end Go.Proofs.YtbbaaaomncegiaaGreatDoor
