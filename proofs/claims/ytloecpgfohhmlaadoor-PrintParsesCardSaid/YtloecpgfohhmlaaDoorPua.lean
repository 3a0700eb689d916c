/-
  gatefoldref29.Far, Digits: whether a number is far; its digits.
-/
import Derived.Test.YtloecpgfohhmlaaDoorPwc
import Derived.IntWalk
import Derived.Laws.BytesArg
namespace Go.Proofs.YtloecpgfohhmlaaDoor
open Go.RowKit Go.Proofs.Prn

theorem near_dec (n : Int) : nearB n = (decide (n ≤ 999999999999999999) && decide (-999999999999999999 ≤ n)) := rfl
theorem far_any (n : Int) (w : World) : Calls Tryd.prog 33 #[.int .i64 n] w fun e w' => e = .returned (.bool (!nearB n)) ∧ w = w' := by
  by_cases h1 : 999999999999999999 < n
  · have e : nearB n = false := by
      rw [near_dec]
      have : decide (n ≤ 999999999999999999) = false := decide_eq_false (by omega)
      rw [this]; rfl
    rw [e]
    clear e
    go_enter Tryd.func33, Tryd.ntmps33
    go_wp2_with fail
    go_ret
    exact ⟨rfl, rfl⟩
  · by_cases h2 : n < -999999999999999999
    · have e : nearB n = false := by
        rw [near_dec]
        have : decide (-999999999999999999 ≤ n) = false := decide_eq_false (by omega)
        rw [this]; simp
      rw [e]
      clear e
      go_enter Tryd.func33, Tryd.ntmps33
      go_wp2_with fail
      go_ret
      exact ⟨rfl, rfl⟩
    · have e : nearB n = true := by
        rw [near_dec]
        rw [decide_eq_true (by omega), decide_eq_true (by omega)]; rfl
      rw [e]
      clear e
      go_enter Tryd.func33, Tryd.ntmps33
      go_wp2_with fail
      go_ret
      exact ⟨rfl, rfl⟩

theorem digit_conv (w : World) (d : Nat) : (convert 42 9 (.slice (some ⟨w.heap.size, 0, none⟩) 1 1)).run Tryd.prog (w.alloc (.cells #[.int .u8 (48 + d)] 5)) = .ok (.string (bs [UInt8.ofNat (48 + d)])) (w.alloc (.cells #[.int .u8 (48 + d)] 5)) := by
  have := run_convert_bytes_arg (P := Tryd.prog) (w.alloc (.cells #[.int .u8 (48 + d)] 5)) 42 5 Tryd.underlying42 Tryd.underlying5 w.heap.size 0 1 1 [((48 + d : Nat) : Int)] rfl (fun i hi => by
    obtain rfl : i = 0 := by omega
    simp) 9 Tryd.underlying9
  rw [this]
  have e : strOfNums [((48 + d : Nat) : Int)] = bs [UInt8.ofNat (48 + d)] := by simp only [strOfNums, bs, List.map_cons, List.map_nil, Int.toNat_natCast]
  rw [e]

set_option maxHeartbeats 4000000 in
set_option maxRecDepth 100000 in
theorem digits_nat : ∀ (n : Nat) (w : World), n ≤ 999999999999999999 → Calls Tryd.prog 34 #[.int .i64 n] w fun e w' => e = .returned (.string (bs (Lib.decDigits n))) ∧ Below w.heap.size w w' := by
  intro n
  induction n using Nat.strongRecOn with
  | _ n ih =>
    intro w hn
    have hc := digit_conv w (n % 10)
    rw [show ((n % 10 : Nat) : Int) = (n : Int) % 10 by omega] at hc
    obtain ⟨c, hcd⟩ : ∃ c, c = UInt8.ofNat (48 + n % 10) := ⟨_, rfl⟩
    rw [← hcd] at hc
    by_cases h9 : 9 < n
    · have h9' : (9 : Int) < (n : Int) := by omega
      have hr := ih (n / 10) (by omega)
      rw [show ((n / 10 : Nat) : Int) = (n : Int) / 10 by omega] at hr
      have HR := Lib.hid hr
      have hl : (Lib.decDigits (n / 10)).length ≤ 19 := dec_len 18 (n / 10) (by omega)
      have hadd := fun W => add_bs (Lib.decDigits (n / 10)) [c] (by simp; omega) W
      have hop : ∀ W, (Op.stringOp .add (bs (Lib.decDigits (n / 10))) (bs [c])).run Tryd.prog W = .ok (.string (bs (Lib.decDigits (n / 10) ++ [c]))) W := fun W => hadd W
      have HE : Hid (Lib.decDigits n = Lib.decDigits (n / 10) ++ [c]) := by
        show _ = _
        rw [Lib.decDigits, dif_neg (by omega), hcd]
      clear hr ih hcd
      go_enter Tryd.func34, Tryd.ntmps34
      go_wp2_with fail
      refine (HR.out _ (by omega)).mono ?_
      rintro e w1 ⟨rfl, hb1⟩
      go_wp2_with fail
      go_ret
      exact ⟨ret_val (by rw [HE.out]; rfl), bt (bl (Below.refl _ _) _) hb1⟩
    · have h9' : ¬ (9 : Int) < (n : Int) := by omega
      have HE : Hid (Lib.decDigits n = [c]) := by
        show _ = _
        rw [Lib.decDigits, dif_pos (by omega), hcd, Nat.mod_eq_of_lt (by omega)]
      clear ih hcd
      go_enter Tryd.func34, Tryd.ntmps34
      go_wp2_with fail
      go_ret
      exact ⟨ret_val (by rw [HE.out]; rfl), bl (Below.refl _ _) _⟩

set_option maxHeartbeats 4000000 in
set_option maxRecDepth 100000 in
theorem digits_any (n : Int) (w : World) (h : nearB n = true) : Calls Tryd.prog 34 #[.int .i64 n] w fun e w' => e = .returned (.string (bs (Lib.itoa n))) ∧ Below w.heap.size w w' := by
  obtain ⟨h1, h2⟩ := (nearB_iff n).1 h
  clear h
  by_cases h0 : n < 0
  · have hr := digits_nat n.natAbs w (by omega)
    rw [show (n.natAbs : Int) = -n by omega] at hr
    have HE : Hid (Lib.itoa n = 45 :: Lib.decDigits n.natAbs) := by
      show _ = _
      rw [Lib.itoa, if_pos h0]
    have HR := Lib.hid hr
    have hl : (Lib.decDigits n.natAbs).length ≤ 19 := dec_len 18 n.natAbs (by omega)
    have hadd : ∀ W, (binOp .add 9 (.string ⟨#[45]⟩) (.string (bs (Lib.decDigits n.natAbs)))).run Tryd.prog W = .ok (.string (bs (45 :: Lib.decDigits n.natAbs))) W := fun W => add_bs [45] (Lib.decDigits n.natAbs) (by simp; omega) W
    have hop : ∀ W, (Op.stringOp .add ⟨#[45]⟩ (bs (Lib.decDigits n.natAbs))).run Tryd.prog W = .ok (.string (bs (45 :: Lib.decDigits n.natAbs))) W := fun W => hadd W
    have hw : IntKind.i64.wrap (-n) = -n := IntWalk.i64_in _ (by omega)
    clear hr
    go_enter Tryd.func34, Tryd.ntmps34
    go_wp2_with fail
    refine HR.out.mono ?_
    rintro e w1 ⟨rfl, hb1⟩
    go_wp2_with fail
    go_ret
    exact ⟨ret_val (by rw [HE.out]; rfl), hb1⟩
  · have hr := digits_nat n.toNat w (by omega)
    rw [show (n.toNat : Int) = n by omega] at hr
    rw [Lib.itoa, if_neg h0]
    exact hr
end Go.Proofs.YtloecpgfohhmlaaDoor
