/-
  gatefoldref29.parts: the lines of parts; none, if a number is far.
-/
import Derived.Test.YtloecpgfohhmlaaDoorPub
import Derived.Test.YtloecpgfohhmlaaDoorPwd
import Derived.Test.YtloecpgfohhmlaaDoorPta
namespace Go.Proofs.YtloecpgfohhmlaaDoor
open Go.RowKit Go.Proofs.Prn

def rfragsB (word : Bytes) (l : List Frag) : Bytes := if nearF l = true then fragsB word l else []
theorem rfragsB_yes {word : Bytes} {l : List Frag} (h : nearF l = true) : rfragsB word l = fragsB word l := by rw [rfragsB, if_pos h]
theorem rfragsB_no {word : Bytes} {l : List Frag} (h : nearF l = false) : rfragsB word l = [] := by rw [rfragsB, h]; rfl
theorem nearF_no {l : List Frag} {k : Nat} {f : Frag} (hx : l[k]? = some f) (hn : nearL f.nums = false) : nearF l = false := by
  cases h : nearF l with
  | false => rfl
  | true =>
    have := List.all_eq_true.1 h f (List.mem_iff_getElem?.2 ⟨k, hx⟩)
    rw [hn] at this; cases this
theorem f64_near {l : List Frag} (h : nearF l = true) : ∀ f ∈ l, F64 f := fun f hf => near_i64 (List.all_eq_true.1 h f hf)

theorem seven_row (W : World) (g : Nat) (a0 a1 a2 a3 a4 a5 a6 : Int) (h : Blk W g 3 #[.int .i64 a0, .int .i64 a1, .int .i64 a2, .int .i64 a3, .int .i64 a4, .int .i64 a5, .int .i64 a6]) : RowAt encI 1 W (some ⟨g, 0, none⟩) (Frag.nums ⟨a0, a1, a2, a3, a4, a5, a6⟩) :=
  RowAt.of_blk (l := Frag.nums ⟨a0, a1, a2, a3, a4, a5, a6⟩) encI_len h
theorem seven_at (w : World) (o : Obj) (a0 a1 a2 a3 a4 a5 a6 : Int) : Blk ((w.alloc o).alloc (.cells #[.int .i64 a0, .int .i64 a1, .int .i64 a2, .int .i64 a3, .int .i64 a4, .int .i64 a5, .int .i64 a6] 3)) (w.heap.size + 1) 3 #[.int .i64 a0, .int .i64 a1, .int .i64 a2, .int .i64 a3, .int .i64 a4, .int .i64 a5, .int .i64 a6] := by
  have := Blk.new (w.alloc o) 3 #[.int .i64 a0, .int .i64 a1, .int .i64 a2, .int .i64 a3, .int .i64 a4, .int .i64 a5, .int .i64 a6]
  simpa using this

set_option maxHeartbeats 8000000 in
set_option maxRecDepth 100000 in
theorem rparts_any (word : Bytes) (A : Option Addr) (c : Nat) (l : List Frag) (w : World) (hA : RowAt encF 7 w A l) (hl : l.length ≤ 10000) (hw : word.length ≤ 10) :
    Calls Tryd.prog 22 #[.string (bs word), .slice A l.length c] w fun e w' =>
      e = .returned (.tuple #[.string (bs (rfragsB word l)), .bool (nearF l)]) ∧ Below w.heap.size w w' := by
  have HA := Lib.hid hA
  clear hA
  go_enter Tryd.func22, Tryd.ntmps22
  go_wp2_with fail
  go_loopw [6, 7] (fun s i wr => ∃ k : Nat, i = .int .i64 k ∧ s = .string (bs (fragsB word (l.take k))) ∧ k ≤ l.length ∧ Hid (nearF (l.take k) = true) ∧ Hid (Below w.heap.size w wr)) (fun _ i _ => l.length - (intOf i).toNat)
  case atStart => exact ⟨0, rfl, rfl, Nat.zero_le _, by show _ = _; rfl, Below.refl _ _⟩
  case round =>
    obtain ⟨k, rfl, rfl, hk, HN, HB⟩ := hrel
    by_cases hlt : k < l.length
    · have hx : l[k]? = some l[k] := List.getElem?_eq_getElem hlt
      have et : l.take (k + 1) = l.take k ++ [l[k]] := List.take_succ_eq_append_getElem hlt
      generalize l[k] = f at hx et
      obtain ⟨b2, off, rfl, hbl, k0, k1, k2, k3, k4, k5, k6⟩ := (HA.out.below HB.out).frag hx
      have hlt' : (k : Int) < (l.length : Int) := by omega
      have i0 : (0 : Int) ≤ (k : Int) := by omega
      have hal : (fragsB word (l.take k)).length ≤ 1600000 := by
        have := frags_short word (l.take k) (f64_near HN.out) hw
        rw [List.length_take] at this
        omega
      have HL : Hid (nearL f.nums = true → (lineB word f.nums).length ≤ 160) := fun h => line_short word f.nums (near_i64 h) hw (by rw [Frag.nums_len]; omega)
      have HX := Lib.hid hx
      have HT := Lib.hid et
      clear hx et
      obtain ⟨a0, a1, a2, a3, a4, a5, a6⟩ := f
      simp only at k0 k1 k2 k3 k4 k5 k6
      cases hn : nearL (Frag.nums ⟨a0, a1, a2, a3, a4, a5, a6⟩) with
      | false =>
        have HE : Hid (nearF l = false) := nearF_no HX.out hn
        have cl := fun (W : World) (g : Nat) (h : RowAt encI 1 W (some ⟨g, 0, none⟩) (Frag.nums ⟨a0, a1, a2, a3, a4, a5, a6⟩)) => rline_any word (some ⟨g, 0, none⟩) 7 (Frag.nums ⟨a0, a1, a2, a3, a4, a5, a6⟩) W h (by rw [Frag.nums_len]; omega) (by omega)
        rw [rlineB_no hn, hn] at cl
        have HC := Lib.hid cl
        clear hn HL cl
        go_wp2_with fail
        refine gen_world (F := fun W => RowAt encI 1 W (some ⟨wr.heap.size + 1, 0, none⟩) (Frag.nums ⟨a0, a1, a2, a3, a4, a5, a6⟩) ∧ Below w.heap.size w W) (G := fun W => Calls _ _ _ W _) _
          ⟨seven_row _ _ _ _ _ _ _ _ _ (seven_at _ _ _ _ _ _ _ _ _), bl (bl HB.out _) _⟩ ?_
        rintro W ⟨hR, hBW⟩
        refine (HC.out W _ hR).mono ?_
        rintro e w1 ⟨rfl, hb1⟩
        have HB1 := Lib.hid (bt hBW hb1)
        clear hb1 HB hBW hR
        go_wp2_with fail
        go_ret2
        exact ⟨by rw [rfragsB_no HE.out, HE.out]; rfl, HB1.out⟩
      | true =>
        have cl := fun (W : World) (g : Nat) (h : RowAt encI 1 W (some ⟨g, 0, none⟩) (Frag.nums ⟨a0, a1, a2, a3, a4, a5, a6⟩)) => rline_any word (some ⟨g, 0, none⟩) 7 (Frag.nums ⟨a0, a1, a2, a3, a4, a5, a6⟩) W h (by rw [Frag.nums_len]; omega) (by omega)
        rw [rlineB_yes hn, hn] at cl
        have HC := Lib.hid cl
        have hll := HL.out hn
        have HE : Hid (nearF (l.take (k + 1)) = true) := by
          show _ = _
          rw [HT.out, nearF_snoc, HN.out, hn]; rfl
        have HS : Hid (fragsB word (l.take (k + 1)) = fragsB word (l.take k) ++ lineB word (Frag.nums ⟨a0, a1, a2, a3, a4, a5, a6⟩)) := by
          show _ = _
          rw [HT.out, fragsB_append, fragsB_one]
        have ha1 : ∀ W, (binOp .add 9 (.string (bs (fragsB word (l.take k)))) (.string (bs (lineB word (Frag.nums ⟨a0, a1, a2, a3, a4, a5, a6⟩))))).run Tryd.prog W = .ok (.string (bs (fragsB word (l.take k) ++ lineB word (Frag.nums ⟨a0, a1, a2, a3, a4, a5, a6⟩)))) W := fun W => add_bs _ _ (by omega) W
        generalize fragsB word (l.take k) = acc at *
        generalize lineB word (Frag.nums ⟨a0, a1, a2, a3, a4, a5, a6⟩) = ln at *
        have ho1 : ∀ W, (Op.stringOp .add (bs acc) (bs ln)).run Tryd.prog W = .ok (.string (bs (acc ++ ln))) W := fun W => ha1 W
        clear hn HL cl hll
        go_wp2_with fail
        refine gen_world (F := fun W => RowAt encI 1 W (some ⟨wr.heap.size + 1, 0, none⟩) (Frag.nums ⟨a0, a1, a2, a3, a4, a5, a6⟩) ∧ Below w.heap.size w W) (G := fun W => Calls _ _ _ W _) _
          ⟨seven_row _ _ _ _ _ _ _ _ _ (seven_at _ _ _ _ _ _ _ _ _), bl (bl HB.out _) _⟩ ?_
        rintro W ⟨hR, hBW⟩
        refine (HC.out W _ hR).mono ?_
        rintro e w1 ⟨rfl, hb1⟩
        have HB1 := Lib.hid (bt hBW hb1)
        clear hb1 HB hBW hR
        go_wp2_with fail
        go_roundw
        case rel => exact ⟨k + 1, by go_num, by rw [HS.out], by omega, HE.out, HB1.out⟩
        case measure => simp [intOf]; omega
    · have hlt' : ¬ (k : Int) < (l.length : Int) := by omega
      have HE : Hid (nearF l = true ∧ fragsB word l = fragsB word (l.take k)) := by
        have e : l.take k = l := List.take_of_length_le (by omega)
        have hn := HN.out
        rw [e] at hn
        exact ⟨hn, by rw [e]⟩
      go_wp2_with fail
      go_ret2
      exact ⟨by rw [rfragsB_yes HE.out.1, HE.out.1, HE.out.2]; rfl, HB.out⟩
end Go.Proofs.YtloecpgfohhmlaaDoor
