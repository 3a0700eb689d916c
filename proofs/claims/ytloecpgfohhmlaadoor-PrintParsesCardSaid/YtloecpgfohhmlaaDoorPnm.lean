/-
  Plain words on numbers read digit by digit: when a field is a number, and when it is none.
-/
import Derived.Test.YtloecpgfohhmlaaDoorPrn
namespace Go.Proofs.Prn
open Go.Lib

/-- As the program's reading says it. -/
def numV : Option Int → Value
  | some n => .tuple #[.int .i64 n, .bool true]
  | none => .tuple #[.int .i64 0, .bool false]
theorem take_snoc' (l : Bytes) (k : Nat) (h : k < l.length) : l.take (k + 1) = l.take k ++ [l[k]] := List.take_succ_eq_append_getElem h
theorem all_take_snoc (l : Bytes) (k : Nat) (h : k < l.length) (ha : (l.take k).all digB = true) (hc : digB l[k] = true) : (l.take (k + 1)).all digB = true := by
  rw [take_snoc' l k h, List.all_append, ha]; simpa using hc
theorem val_take_snoc (l : Bytes) (k : Nat) (h : k < l.length) : valD (l.take (k + 1)) = 10 * valD (l.take k) + (l[k].toNat - 48) := by rw [take_snoc' l k h, valD_snoc]
theorem not_dig (l : Bytes) (k : Nat) (h : k < l.length) (hc : ¬ (48 ≤ l[k].toNat ∧ l[k].toNat ≤ 57)) : natB l = false := by
  cases hb : natB l with
  | false => rfl
  | true =>
    obtain ⟨_, h2, _⟩ := natB_spec hb
    have := List.all_eq_true.1 h2 l[k] (List.getElem_mem h)
    exact absurd ((digB_iff _).1 this) hc
theorem too_long (l : Bytes) (h : 18 < l.length) : natB l = false := by
  cases hb : natB l with
  | false => rfl
  | true => have := (natB_spec hb).2.2.1; omega
theorem too_great (l : Bytes) (k : Nat) (h : k < l.length) (ha : (l.take k).all digB = true) (hv : 99999999999999999 < valD (l.take k)) : natB l = false := by
  have h1 := valD_lt _ ha
  rw [List.length_take, Nat.min_eq_left (by omega)] at h1
  refine too_long l ?_
  rcases Nat.lt_or_ge 17 k with hk | hk
  · omega
  · have : 10 ^ k ≤ 10 ^ 17 := Nat.pow_le_pow_right (by omega) hk
    omega
theorem valD_ge (l : Bytes) (h : l.all digB = true) (h0 : l ≠ []) (hd : l.head? ≠ some 48) : 10 ^ (l.length - 1) ≤ valD l := by
  induction l using snocInd with
  | h0 => exact absurd rfl h0
  | h1 m c ih =>
    have h' := h
    rw [List.all_append, Bool.and_eq_true] at h
    cases m with
    | nil => exact valD_pos _ h' h0 hd
    | cons a r =>
      have := ih h.1 (by simp) (by simpa using hd)
      rw [valD_snoc, List.length_append, List.length_singleton, Nat.add_sub_cancel]
      have e : (a :: r).length = (a :: r).length - 1 + 1 := by simp
      rw [e, Nat.pow_succ]
      omega
theorem nat_ok (l : Bytes) (h : l.all digB = true) (h0 : l ≠ []) (hd : l.head? ≠ some 48 ∨ l.length ≤ 1) (hb : ∀ j, j < l.length → valD (l.take j) ≤ 99999999999999999) : natB l = true := by
  have hlen : l.length ≤ 18 := by
    rcases hd with hd | hd
    · rcases Nat.lt_or_ge 18 l.length with hl | hl
      · have h1 := valD_ge (l.take 18) (by
          rw [List.all_eq_true] at h ⊢
          exact fun c hc => h c (List.mem_of_mem_take hc)) (by intro e; have := congrArg List.length e; rw [List.length_take, List.length_nil] at this; omega) (by
          cases l with
          | nil => exact absurd rfl h0
          | cons a r => simpa using hd)
        rw [List.length_take, Nat.min_eq_left (by omega)] at h1
        have h2 := hb 18 hl
        have : 10 ^ (18 - 1) = 100000000000000000 := by decide
        omega
      · exact hl
    · omega
  unfold natB
  rw [h, decide_eq_true hlen]
  have e1 : l.isEmpty = false := by cases l with
    | nil => exact absurd rfl h0
    | cons a r => rfl
  rw [e1]
  rcases hd with hd | hd
  · have : (l.head? != some 48) = true := by simpa using hd
    rw [this]; rfl
  · rw [decide_eq_true hd]; simp
theorem nat_zero (l : Bytes) (h0 : l.head? = some 48) (h1 : 1 < l.length) : natB l = false := by
  cases hb : natB l with
  | false => rfl
  | true =>
    rcases (natB_spec hb).2.2.2 with h | h
    · exact absurd h0 h
    · omega
theorem nat_nil : natB [] = false := rfl
theorem numP_neg_none (r : Bytes) (h : natB r = false) : numP (45 :: r) = none := by rw [numP_neg, h]; rfl
theorem numP_neg_zero (r : Bytes) (h : r.head? = some 48) : numP (45 :: r) = none := by
  rw [numP_neg, h]
  simp
theorem numP_neg_some (r : Bytes) (h : natB r = true) (hd : r.head? ≠ some 48) : numP (45 :: r) = some (-(valD r : Int)) := by
  rw [numP_neg, h]
  have : (r.head? != some 48) = true := by simpa using hd
  rw [this]; rfl
theorem numP_pos_none (l : Bytes) (hl : l.head? ≠ some 45) (h : natB l = false) : numP l = none := by rw [numP_pos hl, h]; rfl
theorem numP_pos_some (l : Bytes) (h : natB l = true) : numP l = some (valD l : Int) := by rw [numP_pos (head_dig (natB_spec h).2.1), h]; rfl
/-- What is read of digits, with a sign ahead or not. -/
def numS (below : Bool) (l : Bytes) : Option Int := if below = true then numP (45 :: l) else numP l
theorem numS_none (below : Bool) (l : Bytes) (hl : below = false → l.head? ≠ some 45) (h : natB l = false) : numS below l = none := by
  cases below with
  | true => exact numP_neg_none l h
  | false => exact numP_pos_none l (hl rfl) h
theorem numS_pos (l : Bytes) (h : natB l = true) : numS false l = some (valD l : Int) := numP_pos_some l h
theorem numS_neg (l : Bytes) (h : natB l = true) (hd : l.head? ≠ some 48) : numS true l = some (-(valD l : Int)) := numP_neg_some l h hd
theorem numS_zero (l : Bytes) (h : l.head? = some 48) : numS true l = none := numP_neg_zero l h
theorem valD_take_le (l : Bytes) (k : Nat) (hk : k ≤ l.length) (ha : (l.take k).all digB = true) (hb : ∀ j, j < k → valD (l.take j) ≤ 99999999999999999) : valD (l.take k) ≤ 999999999999999999 := by
  cases k with
  | zero => simp [valD]
  | succ k =>
    have hc := ha
    rw [take_snoc' l k (by omega), List.all_append, Bool.and_eq_true] at hc
    have hd := (digB_iff l[k]).1 (by simpa using hc.2)
    have := hb k (by omega)
    rw [val_take_snoc l k (by omega)]
    omega
end Go.Proofs.Prn
