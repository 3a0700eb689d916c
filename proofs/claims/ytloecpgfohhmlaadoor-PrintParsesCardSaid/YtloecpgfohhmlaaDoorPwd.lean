/-
  (*print.writer).frags: a line for each part; whether all numbers are near.
-/
import Derived.Test.YtloecpgfohhmlaaDoorPwc
import Derived.Test.YtloecpgfohhmlaaDoorPmm
namespace Go.Proofs.YtloecpgfohhmlaaDoor
open Go.RowKit Go.Proofs.Prn

def F64 (f : Frag) : Prop := ∀ n ∈ f.nums, I64 n
theorem line_short (word : Bytes) (l : List Int) (h : ∀ n ∈ l, I64 n) (hw : word.length ≤ 10) (hl : l.length ≤ 7) : (lineB word l).length ≤ 160 := by
  have := nums_short l h
  simp [lineB, lineT]
  omega
theorem frags_short (word : Bytes) (l : List Frag) (h : ∀ f ∈ l, F64 f) (hw : word.length ≤ 10) : (fragsB word l).length ≤ 160 * l.length := by
  induction l with
  | nil => exact Nat.le_refl _
  | cons f r ih =>
    have h1 := ih fun m hm => h m (by simp [hm])
    have h2 := line_short word f.nums (h f (by simp)) hw (by rw [Frag.nums_len]; omega)
    simp only [fragsB, List.length_cons, List.length_append]; omega
theorem RowAt.frag {w : World} {A : Option Addr} {xs : List Frag} {i : Nat} {f : Frag} (h : RowAt encF 7 w A xs) (hx : xs[i]? = some f) :
    ∃ b off, A = some ⟨b, off, none⟩ ∧ b < w.heap.size ∧ w.cell? ⟨b, off + i * 7, none⟩ = some (.int .i64 f.node) ∧ w.cell? ⟨b, off + i * 7 + 1, none⟩ = some (.int .i64 f.atom) ∧ w.cell? ⟨b, off + i * 7 + 2, none⟩ = some (.int .i64 f.frm) ∧
      w.cell? ⟨b, off + i * 7 + 3, none⟩ = some (.int .i64 f.x) ∧ w.cell? ⟨b, off + i * 7 + 4, none⟩ = some (.int .i64 f.y) ∧ w.cell? ⟨b, off + i * 7 + 5, none⟩ = some (.int .i64 f.w) ∧ w.cell? ⟨b, off + i * 7 + 6, none⟩ = some (.int .i64 f.h) := by
  obtain ⟨b, off, e, hb, hc⟩ := h i f hx
  exact ⟨b, off, e, hb, hc 0 _ rfl, hc 1 _ rfl, hc 2 _ rfl, hc 3 _ rfl, hc 4 _ rfl, hc 5 _ rfl, hc 6 _ rfl⟩

set_option maxHeartbeats 8000000 in
set_option maxRecDepth 100000 in
theorem frags_any (w0 : World) (b : Nat) (acc word : Bytes) (l : List Frag) (A : Option Addr) (c : Nat) (w : World) (hW : Wk w0 b acc w) (hA : RowAt encF 7 w0 A l) (hl : l.length ≤ 100000) (h64 : ∀ f ∈ l, F64 f)
    (hacc : acc.length ≤ 50000000) (hw : word.length ≤ 10) (hT : Tab w0) :
    Calls Tryd.prog 18 #[.pointer (some ⟨b, 0, none⟩), .string (bs word), .slice A l.length c] w fun e w' =>
      e = .returned (.bool (nearF l)) ∧ Wk w0 b (acc ++ fragsB word l) w' ∧ Stay b w w' := by
  have HT := Lib.hid hT
  have H64 := Lib.hid h64
  have HA := Lib.hid hA
  have HW := Lib.hid hW
  clear hT h64 hA hW
  go_enter Tryd.func18, Tryd.ntmps18
  go_wp2_with fail
  go_loopw [7, 12] (fun o i wr => ∃ (k : Nat) (ok : Bool), i = .int .i64 k ∧ o = .bool ok ∧ k ≤ l.length ∧ Hid (ok = nearF (l.take k)) ∧ Hid (Wk w0 b (acc ++ fragsB word (l.take k)) wr) ∧ Hid (Stay b w wr)) (fun _ i _ => l.length - (intOf i).toNat)
  case atStart => exact ⟨0, true, rfl, rfl, Nat.zero_le _, by show _ = _; rfl, by show Wk _ _ _ _; have := HW.out; simpa [fragsB] using this, Stay.refl _ _⟩
  case round =>
    obtain ⟨k, ok, rfl, rfl, hk, HO, HWk, HSk⟩ := hrel
    by_cases hlt : k < l.length
    · have hx : l[k]? = some l[k] := List.getElem?_eq_getElem hlt
      have hin := H64.out l[k] (List.getElem_mem hlt)
      have et : l.take (k + 1) = l.take k ++ [l[k]] := List.take_succ_eq_append_getElem hlt
      generalize l[k] = f at hx et hin
      obtain ⟨b2, off, rfl, hbl, k0, k1, k2, k3, k4, k5, k6⟩ := (HA.out.below HWk.out.below).frag hx
      have hlt' : (k : Int) < (l.length : Int) := by omega
      have hfs : (acc ++ fragsB word (l.take k)).length ≤ 100000000 := by
        have := frags_short word (l.take k) (fun m hm => H64.out m (List.mem_of_mem_take hm)) hw
        rw [List.length_take] at this
        simp; omega
      have HE : Hid (acc ++ fragsB word (l.take (k + 1)) = (acc ++ fragsB word (l.take k)) ++ lineB word f.nums) := by
        show _ = _
        rw [et, fragsB_append, fragsB_one, List.append_assoc]
      have HN : Hid (nearF (l.take (k + 1)) = (nearF (l.take k) && nearL f.nums)) := by
        show _ = _
        rw [et, nearF_snoc]
      have HIN := Lib.hid hin
      have hbw := HWk.out.lt
      clear hx et hin
      obtain ⟨a0, a1, a2, a3, a4, a5, a6⟩ := f
      simp only at k0 k1 k2 k3 k4 k5 k6
      go_wp2_with fail
      refine (numbers_any ⟨a0, a1, a2, a3, a4, a5, a6⟩ _).mono ?_
      rintro e w2 ⟨g, rfl, hg, hA2, hb2⟩
      have hb3 := bt (bl (Below.refl _ wr) _) hb2
      have HW2 := Lib.hid (HWk.out.on hb3)
      have HS2 := Lib.hid (HSk.out.trans (.of_below hb3))
      have HA2 := Lib.hid hA2
      have hgb : g ≠ b := by simp at hg; omega
      clear hA2 hb2 hb3 k0 k1 k2 k3 k4 k5 k6 HWk HSk hg
      cases hb : nearL (Frag.nums ⟨a0, a1, a2, a3, a4, a5, a6⟩) with
      | true =>
        have cl := line_any w0 b g (acc ++ fragsB word (l.take k)) word (Frag.nums ⟨a0, a1, a2, a3, a4, a5, a6⟩) 7 w2 HW2.out HA2.out hgb (by rw [Frag.nums_len]; omega) HIN.out hfs (by omega) HT.out
        rw [hb] at cl
        have HC := Lib.hid cl
        have HO2 : Hid (ok = nearF (l.take (k + 1))) := by show _ = _; rw [HN.out, hb, HO.out]; simp
        clear cl hb
        go_wp2_with fail
        refine HC.out.mono ?_
        rintro e w3 ⟨rfl, h3, s3⟩
        have HW3 : Hid (Wk w0 b (acc ++ fragsB word (l.take (k + 1))) w3) := by show Wk _ _ _ _; rw [HE.out]; exact h3
        have HS3 := Lib.hid (HS2.out.trans s3)
        clear h3 s3 HW2 HS2 HC HE
        go_wp2_with fail
        go_roundw
        case rel => exact ⟨k + 1, ok, by go_num, rfl, by omega, HO2.out, HW3.out, HS3.out⟩
        case measure => simp [intOf]; omega
      | false =>
        have cl := line_any w0 b g (acc ++ fragsB word (l.take k)) word (Frag.nums ⟨a0, a1, a2, a3, a4, a5, a6⟩) 7 w2 HW2.out HA2.out hgb (by rw [Frag.nums_len]; omega) HIN.out hfs (by omega) HT.out
        rw [hb] at cl
        have HC := Lib.hid cl
        have HO2 : Hid (false = nearF (l.take (k + 1))) := by show _ = _; rw [HN.out, hb]; simp
        clear cl hb
        go_wp2_with fail
        refine HC.out.mono ?_
        rintro e w3 ⟨rfl, h3, s3⟩
        have HW3 : Hid (Wk w0 b (acc ++ fragsB word (l.take (k + 1))) w3) := by show Wk _ _ _ _; rw [HE.out]; exact h3
        have HS3 := Lib.hid (HS2.out.trans s3)
        clear h3 s3 HW2 HS2 HC HE
        go_wp2_with fail
        go_roundw
        case rel => exact ⟨k + 1, false, by go_num, rfl, by omega, HO2.out, HW3.out, HS3.out⟩
        case measure => simp [intOf]; omega
    · have hlt' : ¬ (k : Int) < (l.length : Int) := by omega
      have e : l.take k = l := List.take_of_length_le (by omega)
      have HO2 : Hid (ok = nearF l) := by show _ = _; rw [HO.out, e]
      have HW2 : Hid (Wk w0 b (acc ++ fragsB word l) wr) := by show Wk _ _ _ _; have := HWk.out; rw [e] at this; exact this
      clear e
      go_wp2_with fail
      go_ret
      exact ⟨ret_val (by rw [← HO2.out]; rfl), HW2.out, HSk.out⟩
end Go.Proofs.YtloecpgfohhmlaaDoor
