/-
  Which slots there are: the pages, the last sheet; plain mathematics.
-/
import Derived.Test.YthiplocjiamahaaShu
namespace Go.Proofs.Shs

theorem page_at (p : Plan) (n q : Int) : (atP p n q).page = q := by
  unfold atP bkAt
  split
  · rfl
  · have : ∀ (P : Prop) [Decidable P] (a b : Slot), a.page = q → b.page = q → (if P then a else b).page = q := by
      intro P _ a b ha hb; split <;> assumption
    exact this _ _ _ rfl rfl
theorem page_prog (p : Plan) (n : Int) (j : Nat) : (progAt p n j).page = if n ≤ (j : Int) then -1 else (j : Int) := by
  unfold progAt
  split
  · rfl
  · exact page_at p n j
theorem mem_all (p : Plan) (n : Int) (h : mayP p = true) (h0 : 0 ≤ n) (h1 : n ≤ 999999) (x : Slot) : x ∈ allP p n ↔ ∃ j, j < cntN p n * perP p ∧ progAt p n j = x := by
  rw [← (perm_prog p n h h0 h1).mem_iff, List.mem_map]
  constructor
  · rintro ⟨j, hj, e⟩; exact ⟨j, List.mem_range.1 hj, e⟩
  · rintro ⟨j, hj, e⟩; exact ⟨j, List.mem_range.2 hj, e⟩
theorem len_all (p : Plan) (n : Int) (h : mayP p = true) (h0 : 0 ≤ n) (h1 : n ≤ 999999) : (allP p n).length = cntN p n * perP p := by
  unfold allP; rw [if_pos ⟨h, h0, h1⟩]; simp
theorem len_all_le (p : Plan) (n : Int) : (allP p n).length ≤ 1000511 := by
  by_cases h : mayP p = true ∧ 0 ≤ n ∧ n ≤ 999999
  · rw [len_all p n h.1 h.2.1 h.2.2]
    have := (cnt_bd p n h.1).2
    have := (perP_pos p h.1).2
    omega
  · unfold allP; rw [if_neg h]; simp
theorem lt_len (p : Plan) (n : Int) (h : mayP p = true) (j : Nat) (hj : (j : Int) < n) : j < cntN p n * perP p := by
  have := (cnt_bd p n h).1
  omega
/-- The slot of a page. -/
theorem at_mem (p : Plan) (n q : Int) (h : mayP p = true) (h0 : 0 ≤ n) (h1 : n ≤ 999999) (hq : 0 ≤ q) (hqn : q < n) : atP p n q ∈ allP p n := by
  obtain ⟨j, rfl⟩ := Int.eq_ofNat_of_zero_le hq
  refine (mem_all p n h h0 h1 _).2 ⟨j, lt_len p n h j hqn, ?_⟩
  unfold progAt; rw [if_neg (by omega)]
theorem at_only (p : Plan) (n q : Int) (h : mayP p = true) (h0 : 0 ≤ n) (h1 : n ≤ 999999) (hq : 0 ≤ q) (x : Slot) (hx : x ∈ allP p n) (hp : x.page = q) : q < n ∧ x = atP p n q := by
  obtain ⟨j, _, rfl⟩ := (mem_all p n h h0 h1 x).1 hx
  rw [page_prog] at hp
  split at hp
  · omega
  · subst hp
    refine ⟨by omega, ?_⟩
    unfold progAt; rw [if_neg (by omega)]
theorem find_yes (p : Plan) (n q : Int) (h : mayP p = true) (h0 : 0 ≤ n) (h1 : n ≤ 999999) (hq : 0 ≤ q) (hqn : q < n) : (allP p n).find? (fun x => decide (x.page = q)) = some (atP p n q) := by
  cases hf : (allP p n).find? (fun x => decide (x.page = q)) with
  | none =>
    rw [List.find?_eq_none] at hf
    exact absurd (page_at p n q) (by have := hf _ (at_mem p n q h h0 h1 hq hqn); simpa using this)
  | some x =>
    have h2 := List.find?_some hf
    have h3 := List.mem_of_find?_eq_some hf
    rw [(at_only p n q h h0 h1 hq x h3 (by simpa using h2)).2]
theorem find_no (p : Plan) (n q : Int) (hq : 0 ≤ q) (h : ¬ (mayP p = true ∧ 0 ≤ n ∧ n ≤ 999999 ∧ 0 ≤ q ∧ q < n)) : (allP p n).find? (fun x => decide (x.page = q)) = none := by
  rw [List.find?_eq_none]
  intro x hx hp
  by_cases g : mayP p = true ∧ 0 ≤ n ∧ n ≤ 999999
  · have := (at_only p n q g.1 g.2.1 g.2.2 hq x hx (by simpa using hp)).1
    exact h ⟨g.1, g.2.1, g.2.2, hq, this⟩
  · unfold allP at hx; rw [if_neg g] at hx; cases hx
/-- The last slot's sheet is how many there are. -/
theorem last_sheet (p : Plan) (n : Int) (x : Slot) (hx : (allP p n)[(allP p n).length - 1]? = some x) : x.sheet = cntP p n := by
  by_cases h : mayP p = true ∧ 0 ≤ n ∧ n ≤ 999999
  · obtain ⟨h, h0, h1⟩ := h
    rw [len_all p n h h0 h1] at hx
    unfold allP at hx
    rw [if_pos ⟨h, h0, h1⟩, List.getElem?_map] at hx
    have hlt : cntN p n * perP p - 1 < cntN p n * perP p := by
      rcases Nat.eq_zero_or_pos (cntN p n * perP p) with e | e
      · rw [e] at hx; simp at hx
      · omega
    rw [List.getElem?_range hlt] at hx
    simp only [Option.map_some, Option.some.injEq] at hx
    subst hx
    rw [← cntN_int p n h h0 h1]
    have hp := (perP_pos p h).1
    have key : (cntN p n * perP p - 1) / perP p + 1 = cntN p n := by
      have hc : 0 < cntN p n := by
        rcases Nat.eq_zero_or_pos (cntN p n) with e | e
        · rw [e] at hlt; omega
        · exact e
      obtain ⟨m, hm⟩ : ∃ m, cntN p n = m + 1 := ⟨cntN p n - 1, by omega⟩
      rw [hm, Nat.succ_mul]
      have : m * perP p + perP p - 1 = perP p * m + (perP p - 1) := by rw [Nat.mul_comm]; omega
      rw [this, Nat.mul_add_div hp, Nat.div_eq_of_lt (by omega)]
    unfold slotP
    split
    · unfold gridAt
      simp only
      have : p.rows.toNat * p.cols.toNat * p.sides.toNat = perP p := rfl
      rw [this, key]
    · rename_i hk
      have h4 := perP_book p h hk
      unfold bookAt
      simp only
      rw [h4] at key ⊢
      omega
  · unfold allP at hx; rw [if_neg h] at hx; simp at hx
theorem cnt_nil (p : Plan) (n : Int) (h : allP p n = []) : cntP p n = 0 := by
  by_cases g : mayP p = true ∧ 0 ≤ n ∧ n ≤ 999999
  · obtain ⟨h2, h0, h1⟩ := g
    have := len_all p n h2 h0 h1
    rw [h] at this
    have hp := (perP_pos p h2).1
    rw [← cntN_int p n h2 h0 h1]
    have : cntN p n = 0 := by
      rcases Nat.eq_zero_or_pos (cntN p n) with e | e
      · exact e
      · have := Nat.mul_pos e hp; simp at *; omega
    rw [this]; rfl
  · unfold cntP; rw [if_neg g]

end Go.Proofs.Shs
