/-
  gatefoldref29.line: a word and numbers as a line; none, if one is far.
-/
import Derived.Test.YtloecpgfohhmlaaDoorPua
namespace Go.Proofs.YtloecpgfohhmlaaDoor
open Go.RowKit Go.Proofs.Prn

theorem near_all {l : List Int} {k : Nat} {n : Int} (hx : l[k]? = some n) (hn : nearB n = false) : nearL l = false := by
  cases h : nearL l with
  | false => rfl
  | true =>
    have := List.all_eq_true.1 h n (List.mem_iff_getElem?.2 ⟨k, hx⟩)
    rw [hn] at this; cases this
theorem near_take_succ {l : List Int} {k : Nat} {n : Int} (hlt : k < l.length) (hx : l[k] = n) (hn : nearB n = true) (h : nearL (l.take k) = true) : nearL (l.take (k + 1)) = true := by
  rw [List.take_succ_eq_append_getElem hlt, hx]
  unfold nearL at *
  rw [List.all_append, h]
  simp [hn]
theorem near_i64 {l : List Int} (h : nearL l = true) : ∀ n ∈ l, I64 n := fun n hn => by
  have := (nearB_iff n).1 (List.all_eq_true.1 h n hn)
  exact ⟨by omega, by omega⟩

def rlineB (word : Bytes) (l : List Int) : Bytes := if nearL l = true then lineB word l else []
theorem rlineB_yes {word : Bytes} {l : List Int} (h : nearL l = true) : rlineB word l = lineB word l := by rw [rlineB, if_pos h]
theorem rlineB_no {word : Bytes} {l : List Int} (h : nearL l = false) : rlineB word l = [] := by rw [rlineB, h]; rfl

set_option maxHeartbeats 8000000 in
set_option maxRecDepth 100000 in
theorem rline_any (word : Bytes) (A : Option Addr) (c : Nat) (l : List Int) (w : World) (hA : RowAt encI 1 w A l) (hl : l.length ≤ 7) (hw : word.length ≤ 1000) :
    Calls Tryd.prog 21 #[.string (bs word), .slice A l.length c] w fun e w' =>
      e = .returned (.tuple #[.string (bs (rlineB word l)), .bool (nearL l)]) ∧ Below w.heap.size w w' := by
  have HA := Lib.hid hA
  clear hA
  go_enter Tryd.func21, Tryd.ntmps21
  go_wp2_with fail
  go_loopw [0, 7] (fun s i wr => ∃ k : Nat, i = .int .i64 k ∧ s = .string (bs (word ++ numsB (l.take k))) ∧ k ≤ l.length ∧ Hid (nearL (l.take k) = true) ∧ Hid (Below w.heap.size w wr)) (fun _ i _ => l.length - (intOf i).toNat)
  case atStart => exact ⟨0, rfl, by simp [numsB], Nat.zero_le _, by show _ = _; rfl, Below.refl _ _⟩
  case round =>
    obtain ⟨k, rfl, rfl, hk, HN, HB⟩ := hrel
    by_cases hlt : k < l.length
    · have hx : l[k]? = some l[k] := List.getElem?_eq_getElem hlt
      have et : l.take (k + 1) = l.take k ++ [l[k]] := List.take_succ_eq_append_getElem hlt
      have ek : l[k] = l[k] := rfl
      have hns := fun hn => near_take_succ hlt rfl hn HN.out
      generalize l[k] = n at hx et hns
      clear ek
      obtain ⟨b, off, rfl, hb, hcc⟩ := HA.out.below HB.out k n hx
      have hcell : wr.cell? ⟨b, off + k, none⟩ = some (.int .i64 n) := by simpa using hcc 0 (.int .i64 n) rfl
      have hlt' : (k : Int) < (l.length : Int) := by omega
      have i0 : (0 : Int) ≤ (k : Int) := by omega
      have hlk : (numsB (l.take k)).length ≤ 21 * 7 := by
        have h1 := nums_short (l.take k) (near_i64 HN.out)
        rw [List.length_take] at h1
        omega
      cases hn : nearB n with
      | false =>
        have HE : Hid (nearL l = false) := near_all hx hn
        have HF := Lib.hid (far_any n wr)
        rw [hn] at HF
        clear hx et hns hn
        go_wp2_with fail
        refine HF.out.mono ?_
        rintro e w1 ⟨rfl, rfl⟩
        go_wp2_with fail
        go_ret2
        exact ⟨by rw [rlineB_no HE.out, HE.out]; rfl, HB.out⟩
      | true =>
        have hns' := hns hn
        have HE : Hid (nearL (l.take (k + 1)) = true) := hns'
        have HF := Lib.hid (far_any n wr)
        rw [hn] at HF
        have HD := Lib.hid (digits_any n wr hn)
        have hsh := itoa_short n (by have := (nearB_iff n).1 hn; exact ⟨by omega, by omega⟩)
        have HS : Hid (word ++ numsB (l.take (k + 1)) = (word ++ numsB (l.take k) ++ [32]) ++ Lib.itoa n) := by
          show _ = _
          rw [et, numsB_append]
          simp [numsB]
        have ha1 : ∀ W, (binOp .add 9 (.string (bs (word ++ numsB (l.take k)))) (.string ⟨#[32]⟩)).run Tryd.prog W = .ok (.string (bs (word ++ numsB (l.take k) ++ [32]))) W := fun W => add_bs (word ++ numsB (l.take k)) [32] (by simp; omega) W
        have ho1 : ∀ W, (Op.stringOp .add (bs (word ++ numsB (l.take k))) ⟨#[32]⟩).run Tryd.prog W = .ok (.string (bs (word ++ numsB (l.take k) ++ [32]))) W := fun W => ha1 W
        have hal : (word ++ numsB (l.take k)).length ≤ 1147 := by simp; omega
        generalize word ++ numsB (l.take k) = acc at *
        have ha2 : ∀ W, (binOp .add 9 (.string (bs (acc ++ [32]))) (.string (bs (Lib.itoa n)))).run Tryd.prog W = .ok (.string (bs (acc ++ [32] ++ Lib.itoa n))) W := fun W => add_bs (acc ++ [32]) (Lib.itoa n) (by simp; omega) W
        have ho2 : ∀ W, (Op.stringOp .add (bs (acc ++ [32])) (bs (Lib.itoa n))).run Tryd.prog W = .ok (.string (bs (acc ++ [32] ++ Lib.itoa n))) W := fun W => ha2 W
        clear hx et hns hns' hn
        go_wp2_with fail
        refine HF.out.mono ?_
        rintro e w1 ⟨rfl, rfl⟩
        go_wp2_with fail
        refine HD.out.mono ?_
        rintro e w1 ⟨rfl, hb1⟩
        have HB1 := Lib.hid (bt HB.out hb1)
        clear hb1 HB HD HF
        go_wp2_with fail
        go_roundw
        case rel => exact ⟨k + 1, by go_num, by rw [HS.out]; simp, by omega, HE.out, HB1.out⟩
        case measure => simp [intOf]; omega
    · have hlt' : ¬ (k : Int) < (l.length : Int) := by omega
      have hlk : (numsB (l.take k)).length ≤ 21 * 7 := by
        have h1 := nums_short (l.take k) (near_i64 HN.out)
        rw [List.length_take] at h1
        omega
      have HE : Hid (nearL l = true ∧ lineB word l = word ++ numsB (l.take k) ++ [10]) := by
        have e : l.take k = l := List.take_of_length_le (by omega)
        have hn := HN.out
        rw [e] at hn
        exact ⟨hn, by rw [e]; rfl⟩
      have hal : (word ++ numsB (l.take k)).length ≤ 1147 := by simp; omega
      generalize word ++ numsB (l.take k) = acc at *
      have ha1 : ∀ W, (binOp .add 9 (.string (bs acc)) (.string ⟨#[10]⟩)).run Tryd.prog W = .ok (.string (bs (acc ++ [10]))) W := fun W => add_bs acc [10] (by simp; omega) W
      have ho1 : ∀ W, (Op.stringOp .add (bs acc) ⟨#[10]⟩).run Tryd.prog W = .ok (.string (bs (acc ++ [10]))) W := fun W => ha1 W
      go_wp2_with fail
      go_ret2
      exact ⟨by rw [rlineB_yes HE.out.1, HE.out.1, HE.out.2]; rfl, HB.out⟩
end Go.Proofs.YtloecpgfohhmlaaDoor
