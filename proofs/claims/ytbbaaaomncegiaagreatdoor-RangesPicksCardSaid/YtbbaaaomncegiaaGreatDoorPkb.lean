/-
  ranges.Pick: the pages that a choice has, copied into memory of the call's own; below the heap's size nothing turns.
-/
import Derived.Test.YtbbaaaomncegiaaGreatDoorPka
namespace Go.Proofs.YtbbaaaomncegiaaGreatDoor
open Go.RowKit Go.Proofs.Spn Go.Proofs.Rng Go.Proofs.Prn

theorem PgsA.append {w : World} {base B : Nat} {rs rs' : List Raw} {ps ps' : List Page} (h : PgsA w base B rs ps) (h' : PgsA w base B rs' ps') : PgsA w base B (rs ++ rs') (ps ++ ps') := by
  refine ⟨by rw [List.length_append, List.length_append, h.1, h'.1], fun i r p hr hp => ?_⟩
  rcases Nat.lt_or_ge i rs.length with hi | hi
  · rw [List.getElem?_append_left hi] at hr
    rw [List.getElem?_append_left (by rw [← h.1]; exact hi)] at hp
    exact h.2 i r p hr hp
  · rw [List.getElem?_append_right hi] at hr
    rw [List.getElem?_append_right (by rw [← h.1]; exact hi), ← h.1] at hp
    exact h'.2 _ r p hr hp
theorem PgsA.base {w : World} {base base' B : Nat} {rs : List Raw} {ps : List Page} (h : PgsA w base B rs ps) (hb : base' ≤ base) : PgsA w base' B rs ps :=
  ⟨h.1, fun i r p hr hp => ⟨(h.2 i r p hr hp).1, (h.2 i r p hr hp).2.1, fun k hk => ⟨ownsRow_base ((h.2 i r p hr hp).2.2 k hk).1 hb, ((h.2 i r p hr hp).2.2 k hk).2⟩⟩⟩
def pickP (ls : List Sp) (ps : List Page) : List Page := ps.filter fun p => hasL ls p.no
theorem pickP_snoc (ls : List Sp) (ps : List Page) (k : Nat) (p : Page) (h : ps[k]? = some p) : pickP ls (ps.take (k + 1)) = pickP ls (ps.take k) ++ (if hasL ls p.no = true then [p] else []) := by
  unfold pickP
  rw [List.take_add_one, h, List.filter_append]
  cases hh : hasL ls p.no <;> simp [hh]
theorem pickP_len (ls : List Sp) (ps : List Page) : (pickP ls ps).length ≤ ps.length := List.length_filter_le _ _
/-- What Pick gives. -/
def PicksGive (ls : List Sp) (ps : List Page) (w : World) (e : Ending) (w' : World) : Prop :=
  ∃ (v : Sl) (rs : List Raw), e = .returned v.v ∧ w'.ownsRow w.heap.size 38 5 v.v rs.length (flatL encR rs) ∧ PgsA w' w.heap.size w'.heap.size rs (pickP ls ps) ∧ Below w.heap.size w w'

theorem pick_facts {w4 : World} {base B : Nat} {A : Option Addr} {n c : Nat} {rs4 : List Raw} {b : Bool} {p : Page} (h : w4.ownsRow base 38 5 (Sl.v ⟨A, n, c⟩) rs4.length (flatL encR rs4)) (hg : PgsA w4 base B rs4 (if b = true then [p] else [])) :
    rs4.length ≤ 1 ∧ n = rs4.length ∧ RowAt encR 5 w4 A rs4 := by
  obtain ⟨A', c', hv, hS, _⟩ := RowAt.of_own encR_len h
  injection hv with e1 e2 e3
  have e1' : A = A' := e1
  refine ⟨?_, e2, by rw [e1']; exact hS⟩
  rw [hg.1]
  split <;> simp

/-- What one round of the copying has made. -/
theorem pick_round {w wr w4 w5 : World} {v : Sl} {rs rs4 : List Raw} {qs q4 : List Page} {o : Obj} {v5 : Value} (hO : wr.ownsRow w.heap.size 38 5 v.v rs.length (flatL encR rs)) (hG : PgsA wr w.heap.size wr.heap.size rs qs) (hB : Below w.heap.size w wr)
    (hg4 : PgsA w4 (wr.alloc o).heap.size w4.heap.size rs4 q4) (hb4 : Below (wr.alloc o).heap.size (wr.alloc o) w4) (own5 : w5.ownsRow w.heap.size 38 5 v5 (rs ++ rs4).length (flatL encR (rs ++ rs4))) (grow5 : w4.grownBy w5 v.v.ownBlock) :
    PgsA w5 w.heap.size w5.heap.size (rs ++ rs4) (qs ++ q4) ∧ Below w.heap.size w w5 ∧ ∃ t : Sl, v5 = t.v := by
  have k1 : KF wr w4 := ((KF.refl wr).alloc o).trans (KF.below hb4)
  have hO4 : w4.ownsRow w.heap.size 38 5 v.v rs.length (flatL encR rs) := ob (hO.alloc o) hb4
  have k2 : KF w4 w5 := (KF.refl w4).grown grow5 fun g e => by
    obtain ⟨cs, hcs⟩ := own_blk hO4 e
    exact ⟨_, cs, hcs, by decide⟩
  have hb : Below w.heap.size w w4 := bt (bl hB o) hb4
  have h4 : w.heap.size ≤ (wr.alloc o).heap.size := (bl hB o).size
  obtain ⟨A, c, rfl, _⟩ := RowAt.of_own encR_len own5
  exact ⟨((PgsA.kf (k1.trans k2) hG).more (k1.trans k2).size).append (((PgsA.kf k2 hg4).more k2.size).base h4), hb.grown grow5 hb.size fun k hk => (hO4.lt k hk).1, ⟨A, _, c⟩, rfl⟩

set_option maxHeartbeats 8000000 in
set_option maxRecDepth 100000 in
theorem eachp_any (g cb : Nat) (eg : ∀ args w, (callFunc g args).run Tryz.prog w = .ok (.enter g args) w) (AL : Option Addr) (cl : Nat) (ls : List Sp) (A : Option Addr) (c : Nat) (ps : List Page) (w : World) (hA : PagesAt w A ps) (hc : w.cell? ⟨cb, 0, none⟩ = some (.slice AL ls.length cl)) (hL : Spans w AL ls) (hn : ps.length ≤ 10000) (hls : ls.length ≤ 900000) (hsm : ∀ p ∈ ps, PgSmall p)
    (hf : ∀ (r : Raw) (p : Page) (W : World), W.cell? ⟨cb, 0, none⟩ = some (.slice AL ls.length cl) → Spans W AL ls → PgAt W r p → PgSmall p → ls.length ≤ 900000 → Calls Tryz.prog g #[.agg #[.int .i64 r.no, .int .i64 r.kind, r.h.v, r.f.v, r.l.v], .pointer (some ⟨cb, 0, none⟩)] W (PickGives ls p W)) :
    Calls Tryz.prog 38 #[.slice A ps.length c, .func (.func g) #[] #[.pointer (some ⟨cb, 0, none⟩)]] w (PicksGive ls ps w) := by
  have E1 := Lib.hid eg
  obtain ⟨rr, hrl, hrow, hpg⟩ := hA
  have HROW := Lib.hid hrow
  have HPG := Lib.hid hpg
  have HRL := Lib.hid hrl
  have HSM := Lib.hid hsm
  have HC := Lib.hid fun (r : Raw) (p : Page) (hsm : PgSmall p) (W : World) (h : Below w.heap.size w W) (hp : PgAt W r p) => hf r p W (cell_keep hc h) (hL.below h) hp hsm hls
  clear hrow hpg hrl hsm hc hL eg hf
  go_enter Tryz.func38, Tryz.ntmps38
  go_wp2_with fail
  go_loopw [5, 10] (fun o i wr => ∃ (k : Nat) (v : Sl) (rs : List Raw), i = .int .i64 k ∧ o = v.v ∧ k ≤ ps.length ∧ Hid (wr.ownsRow w.heap.size 38 5 v.v rs.length (flatL encR rs)) ∧ Hid (PgsA wr w.heap.size wr.heap.size rs (pickP ls (ps.take k))) ∧ Hid (Below w.heap.size w wr)) (fun _ i _ => ps.length - (intOf i).toNat)
  case atStart => exact ⟨0, Sl.nil, [], rfl, rfl, Nat.zero_le _, World.ownsRow_nil _ _ _ _, ⟨by simp [pickP], fun i r p hr => by simp at hr⟩, Below.refl _ _⟩
  case round =>
    obtain ⟨k, v, rs, rfl, rfl, hk, HO, HG, HB⟩ := hrel
    by_cases hlt : k < ps.length
    · have hx : ps[k]? = some ps[k] := List.getElem?_eq_getElem hlt
      have hpm := HSM.out ps[k] (List.getElem_mem hlt)
      have et := pickP_snoc ls ps k _ hx
      have hlr : k < rr.length := by rw [HRL.out]; exact hlt
      have hr : rr[k]? = some rr[k] := List.getElem?_eq_getElem hlr
      have hpr := HPG.out k _ _ hr hx
      have hrn : rs.length ≤ 10000 := by have := HG.out.1; have := pickP_len ls (ps.take k); have := List.length_take_le' k ps; omega
      generalize ps[k] = p at *
      generalize rr[k] = r at *
      obtain ⟨b2, off, rfl, hbl, k0, k1, k2, k3, k4⟩ := (HROW.out.below HB.out).raw hr
      have hcall := HC.out r p hpm _ (bl HB.out (.cells #[.int .i64 r.no, .int .i64 r.kind, r.h.v, r.f.v, r.l.v] 38)) (hpr.below (bl HB.out _))
      obtain ⟨rno, rkind, ⟨sA, sn, sc⟩, ⟨tA, tn, tc⟩, ⟨uA, un, uc⟩⟩ := r
      simp only [Sl.v] at k0 k1 k2 k3 k4 hcall
      have hlt' : (k : Int) < (ps.length : Int) := by omega
      have i0 : (0 : Int) ≤ (k : Int) := by omega
      have HT := Lib.hid et
      have HCALL := Lib.hid hcall
      clear hx hpm et hr hpr hcall
      have eg := E1.out
      go_wp2_with (first
        | (go_at_fn g; refine HCALL.out.mono ?_; rintro e w4 ⟨⟨A4, n4, c4⟩, rs4, rfl, hown4, hg4, hb4⟩; obtain ⟨hrn4, hn4, hS4⟩ := pick_facts hown4 hg4; subst hn4; have HO4 := Lib.hid (ob (HO.out.alloc (.cells #[.int .i64 rno, .int .i64 rkind, .slice sA sn sc, .slice tA tn tc, .slice uA un uc] 38)) hb4); have HB4 := Lib.hid (bt (bl HB.out (.cells #[.int .i64 rno, .int .i64 rkind, .slice sA sn sc, .slice tA tn tc, .slice uA un uc] 38)) hb4); have HS4 := Lib.hid hS4; have HG4 := Lib.hid hg4; have HN4 := Lib.hid hb4; clear hown4 hb4 hS4 hg4 HCALL)
        | (at_builtin; refine wpList_append_pages (by rfl) _ _ (by rfl) (by rfl) w.heap.size v.v rs (by rfl) HO4.out A4 _ c4 rs4 (by rfl) rfl HS4.out (by omega) HB4.out.size ?_))
      intro v5 w5 own5 grow5
      have own5' : w5.ownsRow w.heap.size 38 5 v5 (rs ++ rs4).length (flatL encR (rs ++ rs4)) := by rw [List.length_append]; exact own5
      obtain ⟨hG5, hB5, t5, rfl⟩ := pick_round HO.out HG.out HB.out HG4.out HN4.out own5' grow5
      rw [← HT.out] at hG5
      have HO5 := Lib.hid own5'
      have HG5 := Lib.hid hG5
      have HB5 := Lib.hid hB5
      clear own5 own5' grow5 hG5 hB5 HO HG HB HO4 HB4 HS4 HG4 HN4 k0 k1 k2 k3 k4
      generalize rs ++ rs4 = rs' at *
      obtain ⟨E5, n5, d5⟩ := t5
      go_wp2_with fail
      go_roundw
      case rel => exact ⟨k + 1, ⟨E5, n5, d5⟩, rs', by go_num, rfl, by omega, HO5, HG5, HB5⟩
      case measure => simp [intOf]; omega
    · have hlt' : ¬ (k : Int) < (ps.length : Int) := by omega
      have e : ps.take k = ps := List.take_of_length_le (by omega)
      have hG := HG.out
      rw [e] at hG
      have HG2 := Lib.hid hG
      clear e hG HG
      go_wp2_with fail
      go_ret
      exact ⟨v, rs, rfl, HO.out, HG2.out, HB.out⟩

set_option maxHeartbeats 2000000 in
theorem pick_any (AL : Option Addr) (cl : Nat) (ls : List Sp) (A : Option Addr) (c : Nat) (ps : List Page) (w : World) (hA : PagesAt w A ps) (hL : Spans w AL ls) (hn : ps.length ≤ 10000) (hls : ls.length ≤ 900000) (hsm : ∀ p ∈ ps, PgSmall p) :
    Calls Tryz.prog 17 #[.slice AL ls.length cl, .slice A ps.length c] w (PicksGive ls ps w) := by
  have hB0 : Below w.heap.size w (w.alloc (.cells #[.slice AL ls.length cl] 22)) := bl (Below.refl _ _) _
  have e1 : ∀ args w, (callFunc 39 args).run Tryz.prog w = .ok (.enter 39 args) w := enters_of Tryz.func39 (by kernel_rfl) rfl
  have HC := Lib.hid (eachp_any 39 w.heap.size e1 AL cl ls A c ps _ (hA.below hB0) (by simp) (hL.below hB0) hn hls hsm fun r p W h1 h2 h3 h4 h5 => pick1_any _ AL cl ls r p W h1 h2 h3 h4 h5)
  clear e1
  clear hA hL
  go_enter Tryz.func17, Tryz.ntmps17
  go_wp2_with fail
  refine HC.out.mono ?_
  rintro e w1 ⟨v, rs, rfl, ho, hg, hb⟩
  have HO := Lib.hid (ownsRow_base ho hB0.size)
  have HG := Lib.hid (hg.base hB0.size)
  have HB := Lib.hid (bt hB0 hb)
  clear ho hg hb
  obtain ⟨E, n, d⟩ := v
  go_wp2_with fail
  go_ret
  exact ⟨⟨E, n, d⟩, rs, rfl, HO.out, HG.out, HB.out⟩
end Go.Proofs.YtbbaaaomncegiaaGreatDoor
