/-
  gatefoldref26.Own: the same pages in memory of their own.
-/
import Derived.Test.YtbbaaaomncegiaaGreatDoorPgm
namespace Go.Proofs.YtbbaaaomncegiaaGreatDoor
open Go.RowKit Go.Proofs.Prn

set_option maxHeartbeats 8000000 in
set_option maxRecDepth 100000 in
theorem pgown_any (A : Option Addr) (c : Nat) (ps : List Page) (w : World) (hA : PagesAt w A ps) (hn : ps.length ≤ 10000) (hsm : ∀ p ∈ ps, PgSmall p) :
    Calls Tryz.prog 15 #[.slice A ps.length c] w fun e w' => ∃ E d, e = .returned (.slice E ps.length d) ∧ PagesAt w' E ps ∧ Below w.heap.size w w' := by
  obtain ⟨rr, hrl, hrow, hpg⟩ := hA
  have HROW := Lib.hid hrow
  have HPG := Lib.hid hpg
  have HRL := Lib.hid hrl
  have HSM := Lib.hid hsm
  clear hrow hpg hrl hsm
  go_enter Tryz.func15, Tryz.ntmps15
  go_wp2_with fail
  go_loopw [3, 4] (fun o i wr => ∃ (k : Nat) (v : Sl) (rs : List Raw), i = .int .i64 k ∧ o = v.v ∧ k ≤ ps.length ∧ Hid (rs.length = k) ∧ Hid (wr.ownsRow w.heap.size 38 5 v.v rs.length (flatL encR rs)) ∧ Hid (PgsA wr w.heap.size wr.heap.size rs (ps.take k)) ∧ Hid (Below w.heap.size w wr)) (fun _ i _ => ps.length - (intOf i).toNat)
  case atStart => exact ⟨0, Sl.nil, [], rfl, rfl, Nat.zero_le _, by show _ = _; rfl, World.ownsRow_nil _ _ _ _, ⟨by simp, fun i r p hr => by simp at hr⟩, Below.refl _ _⟩
  case round =>
    obtain ⟨k, v, rs, rfl, rfl, hk, HK, HO, HG, HB⟩ := hrel
    by_cases hlt : k < ps.length
    · have hx : ps[k]? = some ps[k] := List.getElem?_eq_getElem hlt
      have hpm := HSM.out ps[k] (List.getElem_mem hlt)
      have et : ps.take (k + 1) = ps.take k ++ [ps[k]] := List.take_succ_eq_append_getElem hlt
      have hlr : k < rr.length := by rw [HRL.out]; exact hlt
      have hr : rr[k]? = some rr[k] := List.getElem?_eq_getElem hlr
      have hpr := HPG.out k _ _ hr hx
      generalize ps[k] = p at *
      generalize rr[k] = r at *
      obtain ⟨rno, rkind, ⟨sA, sn, sc⟩, ⟨tA, tn, tc⟩, ⟨uA, un, uc⟩⟩ := r
      obtain ⟨hno, hkind, ⟨e1, q1⟩, ⟨e2, q2⟩, ⟨e3, q3⟩⟩ := hpr
      simp only at hno hkind e1 e2 e3 q1 q2 q3
      subst hno hkind e1 e2 e3
      obtain ⟨b2, off, rfl, hbl, k0, k1, k2, k3, k4⟩ := (HROW.out.below HB.out).raw hr
      simp only [Sl.v] at k0 k1 k2 k3 k4
      have hlt' : (k : Int) < (ps.length : Int) := by omega
      have i0 : (0 : Int) ≤ (k : Int) := by omega
      have HR := Lib.hid hr
      have KR : Hid (∀ W, Below w.heap.size w W → W.cell? ⟨b2, off + k * 5 + 3, none⟩ = some (.slice tA p.flow.length tc) ∧ W.cell? ⟨b2, off + k * 5 + 4, none⟩ = some (.slice uA p.floats.length uc)) := fun W h => by
        obtain ⟨b', off', e', _, _, _, _, d3, d4⟩ := (HROW.out.below h).raw HR.out
        injection e' with e'
        injection e' with e1 e2
        subst e1 e2
        exact ⟨d3, d4⟩
      have HT := Lib.hid et
      have HPM := Lib.hid hpm
      have hO0 : Ost w (wr.alloc (.cells #[.int .i64 p.no, .int .i64 p.kind, .slice sA p.heads.length sc, .slice tA p.flow.length tc, .slice uA p.floats.length uc] 38)) wr.heap.size v.v rs (ps.take k) #[.int .i64 p.no, .int .i64 p.kind, .slice sA p.heads.length sc, .slice tA p.flow.length tc, .slice uA p.floats.length uc] [] :=
        ⟨Blk.new wr _ _, HO.out.alloc _, (HG.out.kf ((KF.refl _).alloc _)), fun g hg => (HO.out.lt g hg).2, bl HB.out _, (fun x hx => by cases hx), HB.out.size⟩
      have HX0 := Lib.hid hO0
      clear hx hpm et hr hO0
      go_wp2_with (at_builtin; refine gen_world (F := fun W => ∃ Y : World, W = Y.alloc (.cells #[] 61) ∧ Ost w Y wr.heap.size v.v rs (ps.take k) #[.int .i64 p.no, .int .i64 p.kind, .slice sA p.heads.length sc, .slice tA p.flow.length tc, .slice uA p.floats.length uc] [] ∧ Y.heap.size = wr.heap.size + 1) (G := fun W => wpList _ _ _ _ _ W) _ ⟨_, rfl, HX0.out, by simp⟩ ?_; rintro _ ⟨Y0, rfl, hY0, hs0⟩; refine wpList_append_frags (by rfl) _ _ (by rfl) (by rfl) (wr.heap.size + 1) (.slice (some ⟨wr.heap.size + 1, 0, none⟩) 0 0) (by rfl) (by have := made_frags Y0; rw [hs0] at this; exact this) sA sc p.heads (by rfl) (q1.below (bl hY0.below _)) (by have := HPM.out.1; omega) (by simp; omega) ?_)
      intro v0 X0 own0 grow0
      rw [← hs0] at own0
      have gr0 : (Y0.alloc (.cells #[] 61)).grownBy X0 (some Y0.heap.size) := by rw [hs0]; exact grow0
      obtain ⟨E0, d0, rfl, _, _⟩ := RowAt.of_own encF_len own0
      have hO1 : Ost w (X0.setCell ⟨wr.heap.size, 2, none⟩ (.slice E0 p.heads.length d0)) wr.heap.size v.v rs (ps.take k) #[.int .i64 p.no, .int .i64 p.kind, .slice E0 p.heads.length d0, .slice tA p.flow.length tc, .slice uA p.floats.length uc] [(⟨E0, p.heads.length, d0⟩, p.heads)] := hY0.next (s := ⟨E0, p.heads.length, d0⟩) gr0 own0 2
      have hB0 : Blk X0 wr.heap.size 38 #[.int .i64 p.no, .int .i64 p.kind, .slice sA p.heads.length sc, .slice tA p.flow.length tc, .slice uA p.floats.length uc] := (hY0.blk.alloc _).grown gr0 (by have := hY0.blk.lt; simp; omega)
      have c0 := hB0.cell 2
      have z0 := hB0.frozen 2
      simp only [List.getElem?_toArray, List.getElem?_cons_zero, List.getElem?_cons_succ] at c0
      have y0 : ∀ o, ((X0.setCell ⟨wr.heap.size, 2, none⟩ (.slice E0 p.heads.length d0)).alloc o).cell? ⟨b2, off + k * 5 + 3, none⟩ = some (.slice tA p.flow.length tc) := fun o => (KR.out _ (bl hO1.below o)).1
      have HX1 := Lib.hid hO1
      clear hO1 hB0 own0 grow0 gr0 hY0 HX0
      go_wp2_with (at_builtin; refine gen_world (F := fun W => ∃ Y : World, W = Y.alloc (.cells #[] 61) ∧ Ost w Y wr.heap.size v.v rs (ps.take k) #[.int .i64 p.no, .int .i64 p.kind, .slice E0 p.heads.length d0, .slice tA p.flow.length tc, .slice uA p.floats.length uc] [(⟨E0, p.heads.length, d0⟩, p.heads)] ∧ Y.heap.size = X0.heap.size) (G := fun W => wpList _ _ _ _ _ W) _ ⟨_, rfl, HX1.out, by simp⟩ ?_; rintro _ ⟨Y1, rfl, hY1, hs1⟩; refine wpList_append_frags (by rfl) _ _ (by rfl) (by rfl) (X0.heap.size) (.slice (some ⟨X0.heap.size, 0, none⟩) 0 0) (by rfl) (by have := made_frags Y1; rw [hs1] at this; exact this) tA tc p.flow (by rfl) (q2.below (bl hY1.below _)) (by have := HPM.out.2.1; omega) (by simp; omega) ?_)
      intro v1 X1 own1 grow1
      rw [← hs1] at own1
      have gr1 : (Y1.alloc (.cells #[] 61)).grownBy X1 (some Y1.heap.size) := by rw [hs1]; exact grow1
      obtain ⟨E1, d1, rfl, _, _⟩ := RowAt.of_own encF_len own1
      have hO2 : Ost w (X1.setCell ⟨wr.heap.size, 3, none⟩ (.slice E1 p.flow.length d1)) wr.heap.size v.v rs (ps.take k) #[.int .i64 p.no, .int .i64 p.kind, .slice E0 p.heads.length d0, .slice E1 p.flow.length d1, .slice uA p.floats.length uc] [(⟨E1, p.flow.length, d1⟩, p.flow), (⟨E0, p.heads.length, d0⟩, p.heads)] := hY1.next (s := ⟨E1, p.flow.length, d1⟩) gr1 own1 3
      have hB1 : Blk X1 wr.heap.size 38 #[.int .i64 p.no, .int .i64 p.kind, .slice E0 p.heads.length d0, .slice tA p.flow.length tc, .slice uA p.floats.length uc] := (hY1.blk.alloc _).grown gr1 (by have := hY1.blk.lt; simp; omega)
      have c1 := hB1.cell 3
      have z1 := hB1.frozen 3
      simp only [List.getElem?_toArray, List.getElem?_cons_zero, List.getElem?_cons_succ] at c1
      have y1 : ∀ o, ((X1.setCell ⟨wr.heap.size, 3, none⟩ (.slice E1 p.flow.length d1)).alloc o).cell? ⟨b2, off + k * 5 + 4, none⟩ = some (.slice uA p.floats.length uc) := fun o => (KR.out _ (bl hO2.below o)).2
      have HX2 := Lib.hid hO2
      clear hO2 hB1 own1 grow1 gr1 hY1 HX1
      go_wp2_with (at_builtin; refine gen_world (F := fun W => ∃ Y : World, W = Y.alloc (.cells #[] 61) ∧ Ost w Y wr.heap.size v.v rs (ps.take k) #[.int .i64 p.no, .int .i64 p.kind, .slice E0 p.heads.length d0, .slice E1 p.flow.length d1, .slice uA p.floats.length uc] [(⟨E1, p.flow.length, d1⟩, p.flow), (⟨E0, p.heads.length, d0⟩, p.heads)] ∧ Y.heap.size = X1.heap.size) (G := fun W => wpList _ _ _ _ _ W) _ ⟨_, rfl, HX2.out, by simp⟩ ?_; rintro _ ⟨Y2, rfl, hY2, hs2⟩; refine wpList_append_frags (by rfl) _ _ (by rfl) (by rfl) (X1.heap.size) (.slice (some ⟨X1.heap.size, 0, none⟩) 0 0) (by rfl) (by have := made_frags Y2; rw [hs2] at this; exact this) uA uc p.floats (by rfl) (q3.below (bl hY2.below _)) (by have := HPM.out.2.2; omega) (by simp; omega) ?_)
      intro v2 X2 own2 grow2
      rw [← hs2] at own2
      have gr2 : (Y2.alloc (.cells #[] 61)).grownBy X2 (some Y2.heap.size) := by rw [hs2]; exact grow2
      obtain ⟨E2, d2, rfl, _, _⟩ := RowAt.of_own encF_len own2
      have hO3 : Ost w (X2.setCell ⟨wr.heap.size, 4, none⟩ (.slice E2 p.floats.length d2)) wr.heap.size v.v rs (ps.take k) #[.int .i64 p.no, .int .i64 p.kind, .slice E0 p.heads.length d0, .slice E1 p.flow.length d1, .slice E2 p.floats.length d2] [(⟨E2, p.floats.length, d2⟩, p.floats), (⟨E1, p.flow.length, d1⟩, p.flow), (⟨E0, p.heads.length, d0⟩, p.heads)] := hY2.next (s := ⟨E2, p.floats.length, d2⟩) gr2 own2 4
      have hB2 : Blk X2 wr.heap.size 38 #[.int .i64 p.no, .int .i64 p.kind, .slice E0 p.heads.length d0, .slice E1 p.flow.length d1, .slice uA p.floats.length uc] := (hY2.blk.alloc _).grown gr2 (by have := hY2.blk.lt; simp; omega)
      have c2 := hB2.cell 4
      have z2 := hB2.frozen 4
      simp only [List.getElem?_toArray, List.getElem?_cons_zero, List.getElem?_cons_succ] at c2
      have y20 : (X2.setCell ⟨wr.heap.size, 4, none⟩ (.slice E2 p.floats.length d2)).cell? ⟨wr.heap.size, 0, none⟩ = some (.int .i64 p.no) := hO3.blk.cell 0
      have y21 : (X2.setCell ⟨wr.heap.size, 4, none⟩ (.slice E2 p.floats.length d2)).cell? ⟨wr.heap.size, 1, none⟩ = some (.int .i64 p.kind) := hO3.blk.cell 1
      have y22 : (X2.setCell ⟨wr.heap.size, 4, none⟩ (.slice E2 p.floats.length d2)).cell? ⟨wr.heap.size, 2, none⟩ = some (.slice E0 p.heads.length d0) := hO3.blk.cell 2
      have y23 : (X2.setCell ⟨wr.heap.size, 4, none⟩ (.slice E2 p.floats.length d2)).cell? ⟨wr.heap.size, 3, none⟩ = some (.slice E1 p.flow.length d1) := hO3.blk.cell 3
      have y24 : (X2.setCell ⟨wr.heap.size, 4, none⟩ (.slice E2 p.floats.length d2)).cell? ⟨wr.heap.size, 4, none⟩ = some (.slice E2 p.floats.length d2) := hO3.blk.cell 4
      have HX3 := Lib.hid hO3
      clear hO3 hB2 own2 grow2 gr2 hY2 HX2
      go_wp2_with (at_builtin; refine gen_world (F := fun W => ∃ Y : World, W = Y.alloc (.cells #[.int .i64 p.no, .int .i64 p.kind, .slice E0 p.heads.length d0, .slice E1 p.flow.length d1, .slice E2 p.floats.length d2] 38) ∧ Ost w Y wr.heap.size v.v rs (ps.take k) #[.int .i64 p.no, .int .i64 p.kind, .slice E0 p.heads.length d0, .slice E1 p.flow.length d1, .slice E2 p.floats.length d2] [(⟨E2, p.floats.length, d2⟩, p.floats), (⟨E1, p.flow.length, d1⟩, p.flow), (⟨E0, p.heads.length, d0⟩, p.heads)] ∧ Y.heap.size = X2.heap.size) (G := fun W => wpList _ _ _ _ _ W) _ ⟨_, rfl, HX3.out, by simp⟩ ?_; rintro _ ⟨Y3, rfl, hY3, hs3⟩; refine wpList_append_pages (by rfl) _ _ (by rfl) (by rfl) w.heap.size v.v rs (by rfl) (hY3.own.alloc _) (some ⟨X2.heap.size, 0, none⟩) 1 1 [⟨p.no, p.kind, ⟨E0, p.heads.length, d0⟩, ⟨E1, p.flow.length, d1⟩, ⟨E2, p.floats.length, d2⟩⟩] (by rfl) rfl (by have := RowAt.new encR_len Y3 38 [(⟨p.no, p.kind, ⟨E0, p.heads.length, d0⟩, ⟨E1, p.flow.length, d1⟩, ⟨E2, p.floats.length, d2⟩⟩ : Raw)]; rw [hs3] at this; exact this) (by have := HK.out; simp; omega) (bl hY3.below _).size ?_)
      intro v3 X3 own3 grow3
      obtain ⟨hG3, hB3⟩ := hY3.done grow3
      have own3' : X3.ownsRow w.heap.size 38 5 v3 (rs ++ [(⟨p.no, p.kind, ⟨E0, p.heads.length, d0⟩, ⟨E1, p.flow.length, d1⟩, ⟨E2, p.floats.length, d2⟩⟩ : Raw)]).length (flatL encR (rs ++ [(⟨p.no, p.kind, ⟨E0, p.heads.length, d0⟩, ⟨E1, p.flow.length, d1⟩, ⟨E2, p.floats.length, d2⟩⟩ : Raw)])) := by
        rw [List.length_append]; exact own3
      obtain ⟨E3, d3, rfl, _, _⟩ := RowAt.of_own encR_len own3'
      have HK3 : Hid ((rs ++ [(⟨p.no, p.kind, ⟨E0, p.heads.length, d0⟩, ⟨E1, p.flow.length, d1⟩, ⟨E2, p.floats.length, d2⟩⟩ : Raw)]).length = k + 1) := by show _ = _; rw [List.length_append, HK.out]; rfl
      have HO3 := Lib.hid own3'
      rw [← HT.out] at hG3
      have HG3 := Lib.hid hG3
      have HB3 := Lib.hid hB3
      clear own3 own3' grow3 hG3 hB3 hY3 HX3 HO HG HB k0 k1 k2 k3 k4 q1 q2 q3
      generalize rs ++ [(⟨p.no, p.kind, ⟨E0, p.heads.length, d0⟩, ⟨E1, p.flow.length, d1⟩, ⟨E2, p.floats.length, d2⟩⟩ : Raw)] = rs' at *
      go_wp2_with fail
      go_roundw
      case rel => exact ⟨k + 1, ⟨E3, rs'.length, d3⟩, rs', by go_num, rfl, by omega, HK3.out, HO3.out, HG3.out, HB3.out⟩
      case measure => simp [intOf]; omega
    · have hlt' : ¬ (k : Int) < (ps.length : Int) := by omega
      have e : ps.take k = ps := List.take_of_length_le (by omega)
      have hk' : rs.length = ps.length := by have := HK.out; omega
      have hG := HG.out
      rw [e] at hG
      obtain ⟨hv, hP⟩ := pages_of HO.out rfl hG
      obtain ⟨E, n, d⟩ := v
      simp only at hv hP
      subst hv
      have HP := Lib.hid hP
      clear hP e hG HG HO
      simp only [Sl.v]
      go_wp2_with fail
      go_ret
      exact ⟨E, ⟨d, rfl⟩, HP.out, HB.out⟩
end Go.Proofs.YtbbaaaomncegiaaGreatDoor
