/-
  gatefoldlaw29.long tells whether pages are more than are gone through; nothing turns but the count of draws.
-/
import Derived.Test.YtloecpgfohhmlaaDoorPop
import Derived.Test.YtloecpgfohhmlaaDoorPta
import Derived.IntWalk
namespace Go.Proofs.YtloecpgfohhmlaaDoor
open Go.RowKit Go.Proofs.Prn

def longB (ps : List Page) : Bool := decide (60 < ps.length) || decide (400 < partsN ps)
theorem partsN_fit (ps : List Page) (h : ∀ p ∈ ps, PgFit p) : partsN ps ≤ ps.length * 422212465053696 := by
  induction ps with
  | nil => exact Nat.le_refl _
  | cons p r ih =>
    have h1 := ih fun q hq => h q (by simp [hq])
    have h2 := h p (by simp) 0
    have h3 := h p (by simp) 1
    have h4 := h p (by simp) 2
    simp only [pget] at h2 h3 h4
    simp only [partsN, List.length_cons]
    omega

set_option maxHeartbeats 4000000 in
set_option maxRecDepth 100000 in
theorem long_any (A : Option Addr) (c : Nat) (ps : List Page) (w : World) (hA : PagesAt w A ps) (hf : ∀ p ∈ ps, PgFit p) (hm : ps.length ≤ maxLen) :
    Calls Tryd.prog 7 #[.slice A ps.length c] w fun e w' => e = .returned (.bool (longB ps)) ∧ Below w.heap.size w w' := by
  unfold maxLen at hm
  obtain ⟨rs, hl1, hr1, hp1⟩ := hA
  have HR1 := Lib.hid hr1
  have HP1 := Lib.hid hp1
  have HL1 := Lib.hid hl1
  have HF := Lib.hid hf
  clear hr1 hp1 hl1 hf
  by_cases h60 : 60 < ps.length
  · have h60' : (60 : Int) < (ps.length : Int) := by omega
    have HE : Hid (longB ps = true) := by show _ = _; simp [longB, h60]
    clear h60
    go_enter Tryd.func7, Tryd.ntmps7
    go_wp2_with fail
    go_ret
    exact ⟨ret_val (by rw [HE.out]; rfl), Below.refl _ _⟩
  · have h60' : ¬ (60 : Int) < (ps.length : Int) := by omega
    go_enter Tryd.func7, Tryd.ntmps7
    go_wp2_with fail
    go_loopw [3, 4] (fun n i wr => ∃ (k t : Nat), i = .int .i64 k ∧ n = .int .i64 t ∧ k ≤ ps.length ∧ Hid (t = partsN (ps.take k)) ∧ t ≤ k * 422212465053696 ∧ Hid (Below w.heap.size w wr)) (fun _ i _ => ps.length - (intOf i).toNat)
    case atStart => exact ⟨0, 0, rfl, rfl, Nat.zero_le _, by show _ = _; rfl, by omega, Below.refl _ _⟩
    case round =>
      obtain ⟨k, t, rfl, rfl, hk, HT, htk, HB⟩ := hrel
      by_cases hlt : k < ps.length
      · have hx : ps[k]? = some ps[k] := List.getElem?_eq_getElem hlt
        have hkr : k < rs.length := by rw [HL1.out]; exact hlt
        have hrr : rs[k]? = some rs[k] := List.getElem?_eq_getElem hkr
        have hq := HP1.out k _ _ hrr hx
        have hfit := HF.out _ (List.getElem_mem hlt)
        have et : ps.take (k + 1) = ps.take k ++ [ps[k]] := List.take_succ_eq_append_getElem hlt
        generalize ps[k] = p at *
        generalize rs[k] = r at *
        have f0 := hfit 0
        have f1 := hfit 1
        have f2 := hfit 2
        simp only [pget] at f0 f1 f2
        have HT2 : Hid (t + (p.heads.length + p.flow.length + p.floats.length) = partsN (ps.take (k + 1))) := by
          show _ = _
          rw [et, partsN_append, HT.out]
          simp [partsN]
        obtain ⟨rno, rkind, ⟨sA, sn, sc⟩, ⟨tA, tn, tc⟩, ⟨uA, un, uc⟩⟩ := r
        obtain ⟨_, _, ⟨e1, _⟩, ⟨e2, _⟩, ⟨e3, _⟩⟩ := hq
        simp only at e1 e2 e3
        rw [← e1] at HT2 f0
        rw [← e2] at HT2 f1
        rw [← e3] at HT2 f2
        obtain ⟨b, off, rfl, hb, k0, k1, k2, k3, k4⟩ := (HR1.out.below HB.out).raw hrr
        simp only at k0 k1 k2 k3 k4
        have w1 : IntKind.i64.wrap ((sn : Int) + (tn : Int)) = (sn : Int) + tn := IntWalk.i64_in _ (by omega)
        have w2 : IntKind.i64.wrap ((sn : Int) + (tn : Int) + (un : Int)) = (sn : Int) + tn + un := IntWalk.i64_in _ (by omega)
        have w3 : IntKind.i64.wrap ((t : Int) + ((sn : Int) + (tn : Int) + (un : Int))) = (t : Int) + ((sn : Int) + tn + un) := IntWalk.i64_in _ (by omega)
        have i1 : (0 : Int) ≤ (k : Int) := by omega
        have i2 : (k : Int) < (ps.length : Int) := by omega
        have hbd : t + (sn + tn + un) ≤ (k + 1) * 422212465053696 := by omega
        clear hx hrr et hfit f0 f1 f2 e1 e2 e3 htk
        go_wp2_with fail
        go_quiet (fail)
        clear w1 w2 w3
        go_wp2_with fail
        go_roundw
        case rel => exact ⟨k + 1, t + (sn + tn + un), by go_num, by go_num, by omega, HT2.out, hbd, bdn HB.out _⟩
        case measure => simp [intOf]; omega
      · have e : ps.take k = ps := List.take_of_length_le (by omega)
        have hlt' : ¬ (k : Int) < (ps.length : Int) := by omega
        have HT2 : Hid (t = partsN ps) := by show _ = _; rw [HT.out, e]
        clear e HT
        by_cases h4 : 400 < t
        · have h4' : (400 : Int) < (t : Int) := by omega
          have HE : Hid (longB ps = true) := by show _ = _; unfold longB; rw [← HT2.out]; simp [h4]
          clear h4 HT2
          go_wp2_with fail
          go_ret
          exact ⟨ret_val (by rw [HE.out]; simp), HB.out⟩
        · have h4' : ¬ (400 : Int) < (t : Int) := by omega
          have HE : Hid (longB ps = false) := by show _ = _; unfold longB; rw [← HT2.out]; simp [h4, h60]
          clear h4 HT2
          go_wp2_with fail
          go_ret
          exact ⟨ret_val (by rw [HE.out]; simp), HB.out⟩
theorem longB_false {ps : List Page} (h : longB ps = false) : ps.length ≤ 60 ∧ partsN ps ≤ 400 := by
  simp only [longB, Bool.or_eq_false_iff, decide_eq_false_iff_not] at h
  omega
end Go.Proofs.YtloecpgfohhmlaaDoor
