/-
  print.words, lists, near, numbers: what they return; below the heap's size nothing turns.
-/
import Derived.Test.YtloecpgfohhmlaaDoorPri
import Derived.Deep.QuietTactic
import Derived.BigQuiet
namespace Go.Proofs.YtloecpgfohhmlaaDoor
open Go.RowKit Go.Proofs.Prn

abbrev vWords : Value := .agg #[.string ⟨#[104, 101, 97, 100]⟩, .string ⟨#[102, 108, 111, 119]⟩, .string ⟨#[102, 108, 111, 97, 116]⟩]
set_option maxHeartbeats 400000 in
theorem words_any (w : World) : Calls Tryd.prog 17 #[] w fun e w' => e = .returned vWords ∧ Below w.heap.size w w' := by
  go_enter Tryd.func17, Tryd.ntmps17
  go_wp2
  exact bodyPost_ret (v := vWords) (by simp [results, Tryd.results17, go_sem]) rfl ⟨rfl, by first | exact bl (Below.refl _ _) _ | exact bset (bl (Below.refl _ _) _) (by simp) _⟩

theorem flat_int (l : List Int) (k : Nat) (n : Int) (h : l[k]? = some n) : (flatL encI l)[k]? = some (.int .i64 n) := by
  have := flatL_at encI_len l k n h 0 (.int .i64 n) rfl
  simpa using this

set_option maxHeartbeats 2000000 in
theorem near_any (A : Option Addr) (c : Nat) (l : List Int) (w : World) (h : RowAt encI 1 w A l) (hl : l.length ≤ 1000000) :
    Calls Tryd.prog 31 #[.slice A l.length c] w fun e w' => e = .returned (.bool (nearL l)) ∧ w = w' := by
  have HA := Lib.hid h
  clear h
  go_enter Tryd.func31, Tryd.ntmps31
  go_wp2_with fail
  go_loop [7] (fun i => ∃ k : Nat, i = .int .i64 k ∧ k ≤ l.length ∧ Hid (nearL (l.take k) = true)) (fun i => l.length - (intOf i).toNat)
  case atStart => exact ⟨0, rfl, Nat.zero_le _, by show _ = _; rfl⟩
  case round =>
    obtain ⟨k, rfl, hk, HL⟩ := hrel
    by_cases hlt : k < l.length
    · have hx : l[k]? = some l[k] := List.getElem?_eq_getElem hlt
      have et : l.take (k + 1) = l.take k ++ [l[k]] := List.take_succ_eq_append_getElem hlt
      have ed : l = l.take k ++ l[k] :: l.drop (k + 1) := by rw [← List.drop_eq_getElem_cons hlt, List.take_append_drop]
      generalize l[k] = n at hx et ed
      obtain ⟨b, off, rfl, hbl, hc⟩ := HA.out k n hx
      have hcell : w.cell? ⟨b, off + k, none⟩ = some (.int .i64 n) := by simpa using hc 0 _ rfl
      have hlt' : (k : Int) < (l.length : Int) := by omega
      by_cases h1 : n ≤ 999999999999999999
      · by_cases h2 : -999999999999999999 ≤ n
        · have HN : Hid (nearL (l.take (k + 1)) = true) := by
            show _ = _
            rw [et]
            unfold nearL
            rw [List.all_append, ← nearL, HL.out]
            simp [nearB, h1, h2]
          clear hc hx et ed
          go_wp2_with fail
          go_round
          case rel => exact ⟨k + 1, by go_num, by omega, HN⟩
          case measure => simp [intOf]; omega
        · have HN : Hid (nearL l = false) := by
            show _ = _
            rw [ed]
            simp [nearL, nearB, h2]
          have h2' : n < -999999999999999999 := by omega
          clear hc hx et ed
          go_wp2_with fail
          go_ret
          exact ⟨ret_val (by rw [HN.out]; rfl), rfl⟩
      · have HN : Hid (nearL l = false) := by
          show _ = _
          rw [ed]
          simp [nearL, nearB, h1]
        have h1' : 999999999999999999 < n := by omega
        clear hc hx et ed
        go_wp2_with fail
        go_ret
        exact ⟨ret_val (by rw [HN.out]; rfl), rfl⟩
    · have hlt' : ¬ (k : Int) < (l.length : Int) := by omega
      have HN : Hid (nearL l = true) := by
        show _ = _
        rw [← HL.out, List.take_of_length_le (by omega)]
      go_wp2_with fail
      go_ret
      exact ⟨ret_val (by rw [HN.out]; rfl), rfl⟩

abbrev vF (f : Frag) : Value := .agg #[.int .i64 f.node, .int .i64 f.atom, .int .i64 f.frm, .int .i64 f.x, .int .i64 f.y, .int .i64 f.w, .int .i64 f.h]
set_option maxHeartbeats 2000000 in
theorem numbers_any (f : Frag) (w : World) : Calls Tryd.prog 32 #[vF f] w fun e w' => ∃ g, e = .returned (.slice (some ⟨g, 0, none⟩) 7 7) ∧ w.heap.size ≤ g ∧ Blk w' g 3 (flatL encI f.nums).toArray ∧ Below w.heap.size w w' := by
  obtain ⟨a0, a1, a2, a3, a4, a5, a6⟩ := f
  go_enter Tryd.func32, Tryd.ntmps32
  go_wp2
  go_ret
  refine ⟨w.heap.size + 1, rfl, by omega, ?_, bl (bl (Below.refl _ _) _) _⟩
  have e : (w.alloc (.cells #[.int .i64 a0, .int .i64 a1, .int .i64 a2, .int .i64 a3, .int .i64 a4, .int .i64 a5, .int .i64 a6] 39)).heap.size = w.heap.size + 1 := by simp
  have := Blk.new (w.alloc (.cells #[.int .i64 a0, .int .i64 a1, .int .i64 a2, .int .i64 a3, .int .i64 a4, .int .i64 a5, .int .i64 a6] 39)) 3 #[.int .i64 a0, .int .i64 a1, .int .i64 a2, .int .i64 a3, .int .i64 a4, .int .i64 a5, .int .i64 a6]
  rw [e] at this
  exact this
end Go.Proofs.YtloecpgfohhmlaaDoor
