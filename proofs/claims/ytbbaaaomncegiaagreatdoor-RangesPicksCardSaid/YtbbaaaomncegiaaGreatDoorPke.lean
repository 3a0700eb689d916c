/-
  gatefoldref32.Of: the choice of some numbers, by definition; gatefoldlaw32.RangesPicks returns true at whatever numbers, spans, pages; below the heap's size nothing turns.
-/
import Derived.Test.YtbbaaaomncegiaaGreatDoorMhb
import Derived.Test.YtbbaaaomncegiaaGreatDoorRge
import Derived.Test.YtbbaaaomncegiaaGreatDoorRgf
import Derived.Test.YtbbaaaomncegiaaGreatDoorPkd
import Derived.Test.YtbbaaaomncegiaaGreatDoorPgo
import Derived.Test.YtbbaaaomncegiaaGreatDoorPgs
import Derived.Test.YtbbaaaomncegiaaGreatDoorRgp
namespace Go.Proofs.YtbbaaaomncegiaaGreatDoor
open Go.RowKit Go.Proofs.Spn Go.Proofs.Rng

theorem madeS_slice {l : List Sp} {w w' : World} {e : Ending} (h : MadeS l w e w') : ∃ A c, e = .returned (.slice A l.length c) ∧ Spans w' A l ∧ Below w.heap.size w w' := by
  obtain ⟨v, he, hr, hb⟩ := h
  obtain ⟨A, c, rfl, hS, _⟩ := Spans.of_own hr
  exact ⟨A, c, he, hS, hb⟩
/-- What is given of numbers. -/
def GivesN (l : List Sp) (w : World) (e : Ending) (w' : World) : Prop := ∃ A c, e = .returned (.slice A l.length c) ∧ Spans w' A l ∧ Below w.heap.size w w'

set_option maxHeartbeats 4000000 in
set_option maxRecDepth 100000 in
theorem refof_any (A : Option Addr) (c : Nat) (ns : List Int) (w : World) (hA : RowAt encI 1 w A ns) (hn : ns.length ≤ 300000) :
    Calls Tryz.prog 18 #[.slice A ns.length c] w (GivesN (ofS ns) w) := by
  have HA := Lib.hid hA
  clear hA
  go_enter Tryz.func18, Tryz.ntmps18
  go_wp2_with fail
  go_loopw [3, 4] (fun v i wr => ∃ (k : Nat) (o : List Sp) (A' : Option Addr) (c' : Nat), k ≤ ns.length ∧ i = .int .i64 k ∧ v = .slice A' o.length c' ∧ Hid (o = ofS (ns.take k)) ∧ Hid (Spans wr A' o) ∧ Hid (Below w.heap.size w wr))
    (fun _ i _ => ns.length - (intOf i).toNat)
  case atStart => exact ⟨0, [], none, 0, Nat.zero_le _, rfl, rfl, (by show _ = _; rfl), Spans.nil _ _, Below.refl _ _⟩
  case round =>
    obtain ⟨k, o, A', c', hk, rfl, rfl, HE, HS, HB⟩ := hrel
    by_cases hlt : k < ns.length
    · obtain ⟨n, hx⟩ : ∃ n, ns[k]? = some n := ⟨_, List.getElem?_eq_getElem hlt⟩
      obtain ⟨b, off, rfl, hb, hc⟩ := HA.out.below HB.out k n hx
      have c1 := hc 0 _ rfl
      simp only [Nat.add_zero, Nat.mul_one] at c1
      have hlt' : (k : Int) < (ns.length : Int) := by omega
      have i0 : (0 : Int) ≤ (k : Int) := by omega
      have hol : o.length ≤ 300000 := by rw [HE.out]; have := of_length (ns.take k); have := List.length_take_le' k ns; omega
      by_cases hq : 1 ≤ n ∧ n ≤ 999999
      · have q1 := decide_eq_true hq.1
        have q2 := decide_eq_true hq.2
        have HM : Hid (IsMade 1 o [(n, n + 1)] (ofS (ns.take (k + 1)))) := by have := of_made ns k n hx; rw [← HE.out] at this; exact this
        have e1 : IntKind.i64.wrap (n + 1) = n + 1 := IntWalk.i64_in _ (by omega)
        have KEEP : Hid (∀ W, Below wr.heap.size wr W → W.cell? ⟨b, off + k, none⟩ = some (.int .i64 n) ∧ Hid (Below wr.heap.size wr W)) := fun W h => ⟨(h.cell (p := ⟨b, off + k, none⟩) hb).trans c1, h⟩
        have CM : Hid (∀ W, Below wr.heap.size wr W → Calls Tryz.prog 14 #[.int .i64 1, .slice A' o.length c', .slice (some ⟨W.heap.size, 0, none⟩) 1 1] (W.alloc (.cells #[.int .i64 n, .int .i64 (n + 1)] 24)) (MadeS (ofS (ns.take (k + 1))) (W.alloc (.cells #[.int .i64 n, .int .i64 (n + 1)] 24)))) := fun W h =>
          made_any 1 A' (some ⟨W.heap.size, 0, none⟩) c' 1 o [(n, n + 1)] _ _ ((HS.out.below h).below (bl (Below.refl _ _) _)) (spans_new W [(n, n + 1)]) (by omega) (by simp) HM.out
        have HX := Lib.hid hx
        clear hc hx hq
        go_wp2_with fail
        clear c1
        go_region_held3 (fun W => W.cell? ⟨b, off + k, none⟩ = some (.int .i64 n) ∧ Hid (Below wr.heap.size wr W))
          (exact KEEP.out _ (by repeat (first | exact Below.refl _ _ | refine bl ?_ _ | refine bd ?_ | refine bt ?_ (by assumption))))
          ((go_at_call 14; refine (CM.out wr.drew (bd (Below.refl _ _))).mono ?_; rintro e w5 hg5; obtain ⟨A5, c5, rfl, hS5, hb5⟩ := madeS_slice hg5; have hb5 : Below wr.heap.size wr w5 := bt (bl (bd (Below.refl _ _)) _) hb5))
        have HS5 := Lib.hid hS5
        have HB5 := Lib.hid (bt HB.out hb5)
        clear hS5 hb5 hg5
        go_wp2_with fail
        go_roundw
        case rel => exact ⟨k + 1, ofS (ns.take (k + 1)), A5, c5, by omega, by go_num, rfl, (by show _ = _; rfl), HS5, HB5⟩
        case measure => simp [intOf]; omega
      · have HM : Hid (o = ofS (ns.take (k + 1))) := by show _ = _; rw [of_skip ns k n hx hq]; exact HE.out
        clear hc hx
        by_cases p1 : 1 ≤ n
        · have q1 := decide_eq_true p1
          have q2 : decide (n ≤ 999999) = false := decide_eq_false fun h => hq ⟨p1, h⟩
          have p2 : ¬ n ≤ 999999 := fun h => hq ⟨p1, h⟩
          clear hq
          go_wp2_with fail
          go_roundw
          case rel => exact ⟨k + 1, o, A', c', by omega, by go_num, rfl, HM, HS, HB⟩
          case measure => simp [intOf]; omega
        · have q1 := decide_eq_false p1
          clear hq
          go_wp2_with fail
          go_roundw
          case rel => exact ⟨k + 1, o, A', c', by omega, by go_num, rfl, HM, HS, HB⟩
          case measure => simp [intOf]; omega
    · have hlt' : ¬ (k : Int) < (ns.length : Int) := by omega
      have HE2 : Hid (o = ofS ns) := by have := HE.out; rw [List.take_of_length_le (by omega)] at this; exact this
      clear HE
      go_wp2_with fail
      go_ret
      obtain rfl := HE2.out
      exact ⟨A', c', rfl, HS.out, HB.out⟩
end Go.Proofs.YtbbaaaomncegiaaGreatDoor

namespace Go.Proofs.YtbbaaaomncegiaaGreatDoor
open Go.RowKit Go.Proofs.Spn Go.Proofs.Rng Go.Proofs.Prn

/-- 'append([]int{}, x...)': a copy. -/
theorem wpList_copyI {ops : Array Oper} {rest : List Oper} {o : Oper} {a : Act} {W : World} {Q : Exit → Act → World → Prop} (hgd : Region.wanted o (yielded ops a.tmps) = true) (s x : Operand)
    (ho : o.op = .call { callee := .builtin .append, args := #[s, x], argTypes := #[34, 34] }) (hty : o.type = 34)
    (g : Nat) (hs : a.eval s = .slice (some ⟨g, 0, none⟩) 0 0) (hg : g = W.heap.size) (A : Option Addr) (n c : Nat) (xs : List Int) (hx : a.eval x = .slice A n c) (hnl : n = xs.length) (hA : RowAt encI 1 W A xs) (hn : xs.length ≤ 1000000)
    (h : ∀ A' c' w', RowAt encI 1 w' A' xs → Below W.heap.size W w' → wpList Tryz.prog ops Q rest (a.put o.dst (.slice A' xs.length c')) w') : wpList Tryz.prog ops Q (o :: rest) a (W.alloc (.cells #[] 3)) := by
  subst hg
  subst hnl
  obtain ⟨v', w', hr, h1, h2⟩ := run_append_ints (W.alloc (.cells #[] 3)) W.heap.size (.slice (some ⟨W.heap.size, 0, none⟩) 0 0) [] (World.ownsRow_made W #[] 0 (Nat.le_refl _) (Nat.zero_le _) (by simp)) A c xs (hA.below (bl (Below.refl _ _) _)) (by simp; omega) (bl (Below.refl _ _) _).size
  rw [List.nil_append] at h1
  obtain ⟨A', c', rfl, hR, _⟩ := RowAt.of_own encN_len h1
  refine wpList_step fun K hK => ?_
  rw [if_pos hgd]
  exact Lib.wp_append_run _ s x _ _ ho _ _ hs hx _ w' (by rw [hty]; exact hr) (hK _ _ (h A' c' w' hR ((bl (Below.refl _ _) _).grown h2 (bl (Below.refl _ _) _).size (fun k hk => by simp [Value.ownBlock] at hk; omega))))

theorem rows_snoc {W : World} {rs : List Raw} {qs : List Page} {r : Raw} {p : Page} (h : rs.length = qs.length ∧ ∀ (i : Nat) r p, rs[i]? = some r → qs[i]? = some p → PgAt W r p) (hp : PgAt W r p) :
    (rs ++ [r]).length = (qs ++ [p]).length ∧ ∀ (i : Nat) r' p', (rs ++ [r])[i]? = some r' → (qs ++ [p])[i]? = some p' → PgAt W r' p' := by
  refine ⟨by simp [h.1], fun i r' p' hr hq => ?_⟩
  rcases Nat.lt_trichotomy i rs.length with hi | hi | hi
  · rw [List.getElem?_append_left hi] at hr
    rw [List.getElem?_append_left (by rw [← h.1]; exact hi)] at hq
    exact h.2 i r' p' hr hq
  · subst hi
    rw [List.getElem?_append_right (Nat.le_refl _), Nat.sub_self] at hr
    rw [h.1, List.getElem?_append_right (Nat.le_refl _), Nat.sub_self] at hq
    simp at hr hq
    subst hr hq
    exact hp
  · rw [List.getElem?_eq_none (by simp; omega)] at hr; cases hr

def Tot60 (p : Page) : Prop := p.heads.length + p.flow.length + p.floats.length ≤ 60
theorem small_tot {p : Page} (h : Tot60 p) : PgSmall p := by
  unfold Tot60 at h
  exact ⟨by omega, by omega, by omega⟩

set_option maxHeartbeats 8000000 in
set_option maxRecDepth 100000 in
theorem picks_long (A AL B : Option Addr) (c cl d : Nat) (na nl nb : Nat) (m : Int) (w : World) (hT : Tab w) (hm : w.cell? ⟨0, 0, none⟩ = some (.int .i64 m)) (h : 60 < na ∨ 60 < nl ∨ 60 < nb) :
    Calls Tryz.prog 4 #[.slice A na c, .slice AL nl cl, .slice B nb d] w fun e w' => e = .returned (.bool true) ∧ Below w.heap.size w w' := by
  have HC := Lib.hid (awake_any m _ hT hm)
  clear hT hm
  by_cases h1 : (60 : Int) < (na : Int)
  · have g1 := decide_eq_true h1
    clear h
    go_enter Tryz.func4, Tryz.ntmps4
    go_wp2_with fail
    refine HC.out.mono ?_
    rintro e w1 ⟨rfl, hb1⟩
    go_wp2_with fail
    go_ret
    exact ⟨rfl, hb1⟩
  · have g1 := decide_eq_false h1
    by_cases h2 : (60 : Int) < (nl : Int)
    · have g2 := decide_eq_true h2
      clear h
      go_enter Tryz.func4, Tryz.ntmps4
      go_wp2_with fail
      refine HC.out.mono ?_
      rintro e w1 ⟨rfl, hb1⟩
      go_wp2_with fail
      go_ret
      exact ⟨rfl, hb1⟩
    · have g2 := decide_eq_false h2
      have h3 : (60 : Int) < (nb : Int) := by omega
      have g3 := decide_eq_true h3
      clear h
      go_enter Tryz.func4, Tryz.ntmps4
      go_wp2_with fail
      refine HC.out.mono ?_
      rintro e w1 ⟨rfl, hb1⟩
      go_wp2_with fail
      go_ret
      exact ⟨rfl, hb1⟩

set_option maxHeartbeats 32000000 in
set_option maxRecDepth 100000 in
theorem picks_main (A AL B : Option Addr) (c cl d : Nat) (ns : List Int) (ls : List Sp) (ps : List Page) (m : Int) (w : World) (hA : RowAt encI 1 w A ns) (hL : Spans w AL ls) (hB : PagesAt w B ps) (hfit : ∀ p ∈ ps, ∀ k, (pget p k).length ≤ 140737488351232)
    (hT : Tab w) (hm : w.cell? ⟨0, 0, none⟩ = some (.int .i64 m)) (h1 : ns.length ≤ 60) (h2 : ls.length ≤ 60) (h3 : ps.length ≤ 60) :
    Calls Tryz.prog 4 #[.slice A ns.length c, .slice AL ls.length cl, .slice B ps.length d] w fun e w' => e = .returned (.bool true) ∧ Below w.heap.size w w' := by
  have HX0 := Lib.hid (Ctx.start hT hm)
  have HPA := Lib.hid hB
  obtain ⟨rr, hrl, hrow, hpg⟩ := hB
  have HROW := Lib.hid hrow
  have HPG := Lib.hid hpg
  have HRL := Lib.hid hrl
  have HA := Lib.hid hA
  have HL := Lib.hid hL
  have HF := Lib.hid hfit
  have g1 : ¬ (60 : Int) < (ns.length : Int) := by omega
  have g2 : ¬ (60 : Int) < (ls.length : Int) := by omega
  have g3 : ¬ (60 : Int) < (ps.length : Int) := by omega
  have d1 := decide_eq_false g1
  have d2 := decide_eq_false g2
  have d3 := decide_eq_false g3
  clear hA hL hfit hT hm hrl hrow hpg
  go_enter Tryz.func4, Tryz.ntmps4
  go_wp2_with fail
  clear d1 d2 d3 g1 g2 g3
  go_loopw [7] (fun i wr => ∃ (k : Nat), k ≤ ps.length ∧ i = .int .i64 k ∧ Hid (∀ p ∈ ps.take k, Tot60 p) ∧ Hid (Below w.heap.size w wr)) (fun i _ => ps.length - (intOf i).toNat)
  case atStart => exact ⟨0, Nat.zero_le _, rfl, (fun p hp => by simp at hp), Below.refl _ _⟩
  case round =>
    obtain ⟨k, hk, rfl, HS, HB⟩ := hrel
    by_cases hlt : k < ps.length
    · have hx : ps[k]? = some ps[k] := List.getElem?_eq_getElem hlt
      have hf := HF.out ps[k] (List.getElem_mem hlt)
      have hlr : k < rr.length := by rw [HRL.out]; exact hlt
      have hr : rr[k]? = some rr[k] := List.getElem?_eq_getElem hlr
      have hpr := HPG.out k _ _ hr hx
      have H60 : Hid (ps[k].heads.length + ps[k].flow.length + ps[k].floats.length ≤ 60 → ∀ q ∈ ps.take (k + 1), Tot60 q) := fun h q hq => by
        rw [List.take_add_one, hx] at hq
        rcases List.mem_append.1 hq with hq | hq
        · exact HS.out q hq
        · simp [Option.toList] at hq
          subst hq
          exact h
      generalize ps[k] = p at *
      generalize rr[k] = r at *
      obtain ⟨b2, off, rfl, hbl, _, _, k2, k3, k4⟩ := (HROW.out.below HB.out).raw hr
      obtain ⟨rno, rkind, ⟨sA, sn, sc⟩, ⟨tA, tn, tc⟩, ⟨uA, un, uc⟩⟩ := r
      obtain ⟨_, _, ⟨e1, _⟩, ⟨e2, _⟩, ⟨e3, _⟩⟩ := hpr
      simp only [Sl.v] at e1 e2 e3 k2 k3 k4
      have f1 := hf 0
      have f2 := hf 1
      have f3 := hf 2
      simp only [pget] at f1 f2 f3
      rw [← e1] at f1 H60
      rw [← e2] at f2 H60
      rw [← e3] at f3 H60
      clear e1 e2 e3 hf hx hr
      have hlt' : (k : Int) < (ps.length : Int) := by omega
      have i0 : (0 : Int) ≤ (k : Int) := by omega
      by_cases hs : (60 : Int) < (sn : Int) + (tn : Int) + (un : Int)
      · have q := decide_eq_true hs
        have w1 : IntKind.i64.wrap ((sn : Int) + (tn : Int)) = (sn : Int) + (tn : Int) := IntWalk.i64_in _ (by omega)
        have w2 : IntKind.i64.wrap ((sn : Int) + (tn : Int) + (un : Int)) = (sn : Int) + (tn : Int) + (un : Int) := IntWalk.i64_in _ (by omega)
        go_wp2_with fail
        go_quiet (fail)
        all_goals (go_wp2_with fail)
        all_goals
          refine (awake_any m _ (HX0.out.on (bdn HB.out _)).tab (HX0.out.on (bdn HB.out _)).len).mono ?_
          rintro e w3 ⟨rfl, hb3⟩
          go_wp2_with fail
          go_ret
          exact ⟨rfl, bt (bdn HB.out _) hb3⟩
      · have q := decide_eq_false hs
        have H61 := Lib.hid (H60.out (by omega))
        have w1 : IntKind.i64.wrap ((sn : Int) + (tn : Int)) = (sn : Int) + (tn : Int) := IntWalk.i64_in _ (by omega)
        have w2 : IntKind.i64.wrap ((sn : Int) + (tn : Int) + (un : Int)) = (sn : Int) + (tn : Int) + (un : Int) := IntWalk.i64_in _ (by omega)
        go_wp2_with fail
        go_quiet (fail)
        all_goals (go_wp2_with fail)
        all_goals clear w1 w2
        all_goals go_roundw
        all_goals first
          | exact ⟨k + 1, by omega, by go_num, H61.out, bdn HB.out _⟩
          | (simp [intOf]; omega)
    · have hlt' : ¬ (k : Int) < (ps.length : Int) := by omega
      have e : ps.take k = ps := List.take_of_length_le (by omega)
      have hsm := HS.out
      rw [e] at hsm
      have HSM : Hid (∀ p ∈ ps, PgSmall p) := fun p hp => small_tot (hsm p hp)
      have HX1 := Lib.hid (HX0.out.on HB.out)
      clear e hsm HS HF HX0
      generalize wr = w1 at *
      go_wp2_with fail
      refine (pgown_any B d ps w1 (HPA.out.below HX1.out.below) (by omega) HSM.out).mono ?_
      rintro e w2 ⟨E, dE, rfl, hE2, hb2⟩
      have HX2 := Lib.hid (HX1.out.on hb2)
      have HE2 := Lib.hid hE2
      clear hE2 hb2 HX1 HB
      go_wp2_with (at_builtin; refine wpList_copyI (by rfl) _ _ (by rfl) (by rfl) _ (by rfl) (by rfl) A _ c ns (by rfl) rfl (HA.out.below HX2.out.below) (by omega) ?_)
      intro A9 c9 w3 hR3 hb3
      have HX3 := Lib.hid (HX2.out.on hb3)
      have HE3 := Lib.hid (HE2.out.below hb3)
      have HR3 := Lib.hid hR3
      clear hR3 hb3 HX2 HE2
      go_wp2_with fail
      refine (of_any A9 c9 ns w3 HR3.out (by omega)).mono ?_
      rintro e w4 ⟨A10, c10, rfl, hS4, hb4, _⟩
      have HX4 := Lib.hid (HX3.out.on hb4)
      have HE4 := Lib.hid (HE3.out.below hb4)
      have HR4 := Lib.hid (HR3.out.below hb4)
      have HS4 := Lib.hid hS4
      clear hS4 hb4 HX3 HE3 HR3
      go_wp2_with fail
      refine (pick_any AL cl ls E dE ps w4 HE4.out (HL.out.below HX4.out.below) (by omega) (by omega) HSM.out).mono ?_
      rintro e w5 ⟨⟨E5, n5, d5⟩, rs5, rfl, ho5, hg5, hb5⟩
      have HX5 := Lib.hid (HX4.out.on hb5)
      have HB5 := Lib.hid hb5
      have HO5 := Lib.hid ho5
      have HG5 := Lib.hid hg5
      clear ho5 hg5 hb5
      go_wp2_with fail
      go_loopw [12, 13] (fun o i wq => ∃ (k : Nat) (v : Sl) (rs : List Raw), i = .int .i64 k ∧ o = v.v ∧ k ≤ ps.length ∧ Hid (wq.ownsRow w5.heap.size 38 5 v.v rs.length (flatL encR rs)) ∧ Hid (rs.length = (pickP ls (ps.take k)).length ∧ ∀ (i : Nat) r p, rs[i]? = some r → (pickP ls (ps.take k))[i]? = some p → PgAt w5 r p) ∧ Hid (Below w5.heap.size w5 wq)) (fun _ i _ => ps.length - (intOf i).toNat)
      case atStart => exact ⟨0, Sl.nil, [], rfl, rfl, Nat.zero_le _, World.ownsRow_nil _ _ _ _, ⟨by simp [pickP], fun i r p hr => by simp at hr⟩, Below.refl _ _⟩
      case round =>
        obtain ⟨k, v, rs, rfl, rfl, hk, HO, HG, HB⟩ := hrel
        by_cases hlt : k < ps.length
        · have hx : ps[k]? = some ps[k] := List.getElem?_eq_getElem hlt
          have et := pickP_snoc ls ps k _ hx
          have hlr : k < rr.length := by rw [HRL.out]; exact hlt
          have hr : rr[k]? = some rr[k] := List.getElem?_eq_getElem hlr
          have hpr := (HPG.out k _ _ hr hx).below HX5.out.below
          have hrn : rs.length ≤ 60 := by have := HG.out.1; have := pickP_len ls (ps.take k); have := List.length_take_le' k ps; omega
          have HXr := Lib.hid (HX5.out.on HB.out)
          generalize ps[k] = p at *
          generalize rr[k] = r at *
          obtain ⟨b2, off, rfl, hbl, k0, k1, k2, k3, k4⟩ := (HROW.out.below HXr.out.below).raw hr
          have HP := Lib.hid hpr
          have hno := hpr.1
          obtain ⟨rno, rkind, ⟨sA, sn, sc⟩, ⟨tA, tn, tc⟩, ⟨uA, un, uc⟩⟩ := r
          simp only at hno
          subst hno
          simp only [Sl.v] at k0 k1 k2 k3 k4
          have hlt' : (k : Int) < (ps.length : Int) := by omega
          have i0 : (0 : Int) ≤ (k : Int) := by omega
          have HR := Lib.hid hr
          have CELLS : Hid (∀ W, Below w.heap.size w W → W.cell? ⟨b2, off + k * 5, none⟩ = some (.int .i64 p.no) ∧ W.cell? ⟨b2, off + k * 5 + 1, none⟩ = some (.int .i64 rkind) ∧ W.cell? ⟨b2, off + k * 5 + 2, none⟩ = some (.slice sA sn sc) ∧ W.cell? ⟨b2, off + k * 5 + 3, none⟩ = some (.slice tA tn tc) ∧ W.cell? ⟨b2, off + k * 5 + 4, none⟩ = some (.slice uA un uc)) := fun W h => by
            obtain ⟨b', off', e', _, x0, x1, x2, x3, x4⟩ := (HROW.out.below h).raw HR.out
            injection e' with e'
            injection e' with e1 e2
            subst e1 e2
            exact ⟨x0, x1, x2, x3, x4⟩
          rw [show hasL ls p.no = (mayB ls && hasA ls p.no) from rfl] at et
          have CM := Lib.hid (refmay_any AL cl ls wr (HL.out.below HXr.out.below) (by omega))
          have CH : Hid (∀ W, Below w.heap.size w W → Calls Tryz.prog 13 #[.slice AL ls.length cl, .int .i64 p.no] W fun e w' => e = .returned (.bool (hasA ls p.no)) ∧ Below W.heap.size W w') := fun W h => refhas_any AL cl ls p.no W (HL.out.below h) (by omega)
          generalize mayB ls = b1 at *
          generalize hasA ls p.no = b3 at *
          have HT := Lib.hid et
          clear hx et hr hpr k0 k1 k2 k3 k4
          go_wp2_with fail
          refine CM.out.mono ?_
          rintro e w6 ⟨rfl, hb6⟩
          have HX6 := Lib.hid (HXr.out.on hb6)
          have HB6 := Lib.hid (HB.out.trans (hb6.mono HB.out.size))
          have HO6 := Lib.hid (ob HO.out hb6)
          clear hb6 HXr CM HO HB
          cases b1 with
          | false =>
            have HG2 : Hid (rs.length = (pickP ls (ps.take (k + 1))).length ∧ ∀ (i : Nat) r p, rs[i]? = some r → (pickP ls (ps.take (k + 1)))[i]? = some p → PgAt w5 r p) := by
              have := HT.out
              simp only [Bool.false_and, Bool.false_eq_true, if_false, List.append_nil] at this
              rw [this]
              exact HG.out
            obtain ⟨vA, vn, vc⟩ := v
            clear HT HG CH
            go_wp2_with fail
            go_roundw
            case rel => exact ⟨k + 1, ⟨vA, vn, vc⟩, rs, by go_num, rfl, by omega, HO6, HG2, HB6⟩
            case measure => simp [intOf]; omega
          | true =>
            obtain ⟨x0, x1, x2, x3, x4⟩ := CELLS.out _ HX6.out.below
            go_wp2_with fail
            clear x0 x1 x2 x3 x4
            refine (CH.out _ HX6.out.below).mono ?_
            rintro e w7 ⟨rfl, hb7⟩
            have HX7 := Lib.hid (HX6.out.on hb7)
            have HB7 := Lib.hid (HB6.out.trans (hb7.mono HB6.out.size))
            have HO7 := Lib.hid (ob HO6.out hb7)
            clear hb7 HX6 CH HO6 HB6
            cases b3 with
            | false =>
              have HG2 : Hid (rs.length = (pickP ls (ps.take (k + 1))).length ∧ ∀ (i : Nat) r p, rs[i]? = some r → (pickP ls (ps.take (k + 1)))[i]? = some p → PgAt w5 r p) := by
                have := HT.out
                simp only [Bool.and_false, Bool.false_eq_true, if_false, List.append_nil] at this
                rw [this]
                exact HG.out
              obtain ⟨vA, vn, vc⟩ := v
              clear HT HG
              go_wp2_with fail
              go_roundw
              case rel => exact ⟨k + 1, ⟨vA, vn, vc⟩, rs, by go_num, rfl, by omega, HO7, HG2, HB7⟩
              case measure => simp [intOf]; omega
            | true =>
              have HG2 : Hid ((rs ++ [(⟨p.no, rkind, ⟨sA, sn, sc⟩, ⟨tA, tn, tc⟩, ⟨uA, un, uc⟩⟩ : Raw)]).length = (pickP ls (ps.take (k + 1))).length ∧ ∀ (i : Nat) r p', (rs ++ [(⟨p.no, rkind, ⟨sA, sn, sc⟩, ⟨tA, tn, tc⟩, ⟨uA, un, uc⟩⟩ : Raw)])[i]? = some r → (pickP ls (ps.take (k + 1)))[i]? = some p' → PgAt w5 r p') := by
                have := HT.out
                simp only [Bool.and_self, if_true] at this
                rw [this]
                exact rows_snoc HG.out HP.out
              obtain ⟨x0, x1, x2, x3, x4⟩ := CELLS.out _ HX7.out.below
              go_wp2_with (at_builtin; refine wpList_append_pages (by rfl) _ _ (by rfl) (by rfl) w5.heap.size v.v rs (by rfl) (HO7.out.alloc _) (some ⟨w7.heap.size, 0, none⟩) 1 1 [⟨p.no, rkind, ⟨sA, sn, sc⟩, ⟨tA, tn, tc⟩, ⟨uA, un, uc⟩⟩] (by rfl) rfl (RowAt.new encR_len w7 38 [(⟨p.no, rkind, ⟨sA, sn, sc⟩, ⟨tA, tn, tc⟩, ⟨uA, un, uc⟩⟩ : Raw)]) (by simp; omega) (bl HB7.out _).size ?_)
              intro v8 w8 own8 grow8
              have HB8 := Lib.hid ((bl HB7.out (.cells #[.int .i64 p.no, .int .i64 rkind, .slice sA sn sc, .slice tA tn tc, .slice uA un uc] 38)).grown grow8 (bl HB7.out (.cells #[.int .i64 p.no, .int .i64 rkind, .slice sA sn sc, .slice tA tn tc, .slice uA un uc] 38)).size fun j hj => (HO7.out.lt j hj).1)
              have own8' : w8.ownsRow w5.heap.size 38 5 v8 (rs ++ [(⟨p.no, rkind, ⟨sA, sn, sc⟩, ⟨tA, tn, tc⟩, ⟨uA, un, uc⟩⟩ : Raw)]).length (flatL encR (rs ++ [(⟨p.no, rkind, ⟨sA, sn, sc⟩, ⟨tA, tn, tc⟩, ⟨uA, un, uc⟩⟩ : Raw)])) := by rw [List.length_append]; exact own8
              have HO8 := Lib.hid own8'
              obtain ⟨vA, vc, rfl, _⟩ := RowAt.of_own encR_len own8'
              clear own8 own8' grow8 HT HG HO7 HB7 x0 x1 x2 x3 x4 HP CELLS HR
              generalize rs ++ [(⟨p.no, rkind, ⟨sA, sn, sc⟩, ⟨tA, tn, tc⟩, ⟨uA, un, uc⟩⟩ : Raw)] = rs' at *
              go_wp2_with fail
              go_roundw
              case rel => exact ⟨k + 1, ⟨vA, rs'.length, vc⟩, rs', by go_num, rfl, by omega, HO8, HG2, HB8⟩
              case measure => simp [intOf]; omega
        · have hlt' : ¬ (k : Int) < (ps.length : Int) := by omega
          have e : ps.take k = ps := List.take_of_length_le (by omega)
          have hG := HG.out
          rw [e] at hG
          have HXr := Lib.hid (HX5.out.on HB.out)
          obtain ⟨vA, vc, hv, hrow', _⟩ := RowAt.of_own encR_len HO.out
          obtain ⟨vA', vn, vc'⟩ := v
          injection hv with q1 q2 q3
          subst q1 q3
          have HW : Hid (PagesAt wr vA' (pickP ls ps)) := ⟨rs, hG.1, hrow', fun i r p hr hp => (hG.2 i r p hr hp).below HB.out⟩
          have hvn : vn = (pickP ls ps).length := by rw [← hG.1]; exact q2
          obtain ⟨hp5, hP5⟩ := pages_of HO5.out rfl HG5.out
          simp only at hp5 hP5
          have HP5 := Lib.hid (hP5.below HB.out)
          have hq : n5 = (pickP ls ps).length := hp5
          clear e hG HG HO hrow' q2 hP5 hp5
          generalize wr = w6 at *
          subst hvn hq
          simp only [Sl.v]
          go_wp2_with fail
          refine (refof_any A c ns w6 (HA.out.below HXr.out.below) (by omega)).mono ?_
          rintro e w7 ⟨A13, c13, rfl, hS7, hb7⟩
          have H57 := Lib.hid (bt HB.out hb7)
          have hol := of_length ns
          have HW7 := Lib.hid (HW.out.below hb7)
          have HP7 := Lib.hid (HP5.out.below hb7)
          have HS7 := Lib.hid hS7
          clear hS7 hb7 HW HP5 HB HXr
          go_wp2_with fail
          refine (same_any A10 A13 c10 c13 (ofS ns) (ofS ns) w7 (HS4.out.below (bt HB5.out H57.out)) HS7.out (by omega)).mono ?_
          rw [same_self]
          rintro e w8 ⟨rfl, hb8⟩
          have H58 := Lib.hid (bt H57.out hb8)
          have HW8 := Lib.hid (HW7.out.below hb8)
          have HP8 := Lib.hid (HP7.out.below hb8)
          have hpl := pickP_len ls ps
          have HSP : Hid (∀ p ∈ pickP ls ps, PgSmall p) := fun p hp => HSM.out p (List.mem_filter.1 hp).1
          clear hb8 HW7 HP7 HS7 H57 HS4 hol
          go_wp2_with fail
          refine (pgsame_any E5 vA' d5 vc' (pickP ls ps) (pickP ls ps) w8 HP8.out HW8.out (by omega) HSP.out).mono ?_
          rw [pg_self]
          rintro e w9 ⟨rfl, hb9⟩
          have H59 := Lib.hid (bt H58.out hb9)
          have HO9 := Lib.hid (ob HO5.out H59.out)
          have HK9 : Hid (∀ (i : Nat) r, rs5[i]? = some r → ClrOk w4.heap.size w9 r.f) := fun i r hr => by
            have hlt : i < (pickP ls ps).length := by rw [← HG5.out.1]; exact (List.getElem?_eq_some_iff.1 hr).1
            exact ClrOk.of (((PgsA.kf (KF.below H59.out) HG5.out).2 i r _ hr (List.getElem?_eq_getElem hlt)).2.2 1 (by omega))
          have H49 := Lib.hid (bt HB5.out H59.out)
          have HN5 := Lib.hid HG5.out.1
          clear hb9 H58 H59 HW8 HP8 HSP HO5 HG5 HX5 HB5
          go_wp2_with fail
          go_loopw [14] (fun i wq => ∃ (k : Nat), k ≤ (pickP ls ps).length ∧ i = .int .i64 k ∧ Hid (Clrd w4.heap.size w9 wq)) (fun i _ => (pickP ls ps).length - (intOf i).toNat)
          case atStart => exact ⟨0, Nat.zero_le _, rfl, Clrd.refl _ _⟩
          case round =>
            obtain ⟨k, hk, rfl, HC⟩ := hrel
            by_cases hlt : k < (pickP ls ps).length
            · have hk5 : k < rs5.length := by rw [HN5.out]; exact hlt
              have hr : rs5[k]? = some rs5[k] := List.getElem?_eq_getElem hk5
              obtain ⟨A', c', hv, hrow', -⟩ := RowAt.of_own encR_len (HC.out.own (by decide) HO9.out)
              injection hv with q1 q2 q3
              subst q1
              have hok := HC.out.ok (HK9.out k _ hr)
              generalize rs5[k] = r at *
              obtain ⟨b2, off, rfl, hbl, _, _, _, k3, _⟩ := hrow'.raw hr
              obtain ⟨wc, hcl, hclr⟩ := clear_frags hok (by have := H49.out.size; have := HC.out.size; omega)
              obtain ⟨rno, rkind, ⟨sA, sn, sc⟩, ⟨tA, tn, tc⟩, ⟨uA, un, uc⟩⟩ := r
              simp only [Sl.v] at k3 hcl
              have hlt' : (k : Int) < ((pickP ls ps).length : Int) := by omega
              have i0 : (0 : Int) ≤ (k : Int) := by omega
              have HC2 := Lib.hid (HC.out.trans hclr)
              clear hr hrow' hok hclr HC q2 q3
              go_wp2_with fail
              clear hcl
              go_roundw
              case rel => exact ⟨k + 1, by omega, by go_num, HC2⟩
              case measure => simp [intOf]; omega
            · have hlt' : ¬ (k : Int) < ((pickP ls ps).length : Int) := by omega
              have H410 := Lib.hid (H49.out.trans HC.out.below)
              have HX10 := Lib.hid (HX4.out.on H410.out)
              have HE10 := Lib.hid (HE4.out.below H410.out)
              have HR10 := Lib.hid (HR4.out.below H410.out)
              clear HC H49 H410 HX4 HE4 HR4 HK9 HO9
              generalize wr = w10 at *
              go_wp2_with fail
              go_loopw [15] (fun i wq => ∃ (k : Nat), k ≤ ns.length ∧ i = .int .i64 k ∧ Hid (Below w10.heap.size w10 wq)) (fun i _ => ns.length - (intOf i).toNat)
              case atStart => exact ⟨0, Nat.zero_le _, rfl, Below.refl _ _⟩
              case round =>
                obtain ⟨k, hk, rfl, HB⟩ := hrel
                by_cases hlt : k < ns.length
                · obtain ⟨n, hx⟩ : ∃ n, ns[k]? = some n := ⟨_, List.getElem?_eq_getElem hlt⟩
                  obtain ⟨b, off, e1, hb, hc⟩ := HR10.out.below HB.out k n hx
                  obtain ⟨b', off', e2, hb', hc'⟩ := HA.out.below (bt HX10.out.below HB.out) k n hx
                  subst e1 e2
                  have x1 := hc 0 _ rfl
                  have x2 := hc' 0 _ rfl
                  simp only [Nat.add_zero, Nat.mul_one] at x1 x2
                  have hlt' : (k : Int) < (ns.length : Int) := by omega
                  have i0 : (0 : Int) ≤ (k : Int) := by omega
                  have q : (n != n) = false := by simp
                  clear hc hc' hx
                  go_wp2_with fail
                  go_quiet (fail)
                  all_goals (go_wp2_with fail)
                  all_goals go_roundw
                  all_goals first
                    | exact ⟨k + 1, by omega, by go_num, bdn HB.out _⟩
                    | (simp [intOf]; omega)
                · have hlt' : ¬ (k : Int) < (ns.length : Int) := by omega
                  have HX11 := Lib.hid (HX10.out.on HB.out)
                  have HE11 := Lib.hid (HE10.out.below HB.out)
                  clear HB HX10 HE10 HR10
                  generalize wr = w11 at *
                  go_wp2_with fail
                  refine (pgsame_any E B dE d ps ps w11 HE11.out (HPA.out.below HX11.out.below) (by omega) HSM.out).mono ?_
                  rw [pg_self]
                  rintro e w12 ⟨rfl, hb12⟩
                  have HX12 := Lib.hid (HX11.out.on hb12)
                  clear hb12 HX11 HE11
                  go_wp2_with fail
                  refine (awake_any m _ HX12.out.tab HX12.out.len).mono ?_
                  rintro e w13 ⟨rfl, hb13⟩
                  go_wp2_with fail
                  go_ret
                  exact ⟨rfl, bt HX12.out.below hb13⟩

theorem picks_any (A AL B : Option Addr) (c cl d : Nat) (ns : List Int) (ls : List Sp) (ps : List Page) (m : Int) (w : World) (hA : RowAt encI 1 w A ns) (hL : Spans w AL ls) (hB : PagesAt w B ps) (hfit : ∀ p ∈ ps, ∀ k, (pget p k).length ≤ 140737488351232)
    (hT : Tab w) (hm : w.cell? ⟨0, 0, none⟩ = some (.int .i64 m)) :
    Calls Tryz.prog 4 #[.slice A ns.length c, .slice AL ls.length cl, .slice B ps.length d] w fun e w' => e = .returned (.bool true) ∧ Below w.heap.size w w' := by
  by_cases h : 60 < ns.length ∨ 60 < ls.length ∨ 60 < ps.length
  · exact picks_long A AL B c cl d _ _ _ m w hT hm h
  · exact picks_main A AL B c cl d ns ls ps m w hA hL hB hfit hT hm (by omega) (by omega) (by omega)
end Go.Proofs.YtbbaaaomncegiaaGreatDoor
