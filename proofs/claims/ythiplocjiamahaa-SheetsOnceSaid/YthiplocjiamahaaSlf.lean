/-
  What the stage's theorem asks of all slots: counted, turned, without one, with one told twice; plain mathematics.
-/
import Derived.Test.YthiplocjiamahaaShi
namespace Go.Proofs.Ythiplocjiamahaa
open Go.RowKit Go.Proofs.Shs

/-! ### Rows of counts -/
def cntRow (n : Nat) (f : Slot → Nat → Bool) (l : List Slot) : List Int := (List.range n).map fun q => (((l.filter (f · q)).length : Nat) : Int)
theorem cntRow_len (n : Nat) (f : Slot → Nat → Bool) (l : List Slot) : (cntRow n f l).length = n := by unfold cntRow; simp
theorem cntRow_get {n q : Nat} (f : Slot → Nat → Bool) (l : List Slot) (h : q < n) : (cntRow n f l)[q]? = some (((l.filter (f · q)).length : Nat) : Int) := by
  unfold cntRow; rw [List.getElem?_map, List.getElem?_range h]; rfl
theorem cntRow_nil (n : Nat) (f : Slot → Nat → Bool) : cntRow n f [] = List.replicate n 0 := by
  apply List.ext_getElem?
  intro i
  by_cases h : i < n
  · rw [cntRow_get f [] h, List.getElem?_replicate, if_pos h]; rfl
  · rw [List.getElem?_eq_none (by rw [cntRow_len]; omega), List.getElem?_eq_none (by simp; omega)]
theorem cntRow_set {n j : Nat} (f : Slot → Nat → Bool) (l : List Slot) (x : Slot) (hf : ∀ q, f x q = decide (q = j)) : (cntRow n f l).set j ((((l.filter (f · j)).length : Nat) : Int) + 1) = cntRow n f (l ++ [x]) := by
  apply List.ext_getElem?
  intro i
  by_cases h : i < n
  · rw [cntRow_get f _ h]
    by_cases e : j = i
    · subst e
      rw [List.getElem?_set_self (by rw [cntRow_len]; exact h)]
      simp [List.filter_append, hf]
    · rw [List.getElem?_set_ne e, cntRow_get f _ h]
      simp [List.filter_append, hf, Ne.symm e]
  · rw [List.getElem?_eq_none (by simp [cntRow_len]; omega), List.getElem?_eq_none (by rw [cntRow_len]; omega)]
theorem cntRow_same {n : Nat} (f : Slot → Nat → Bool) (l : List Slot) (x : Slot) (hf : ∀ q, f x q = false) : cntRow n f (l ++ [x]) = cntRow n f l := by
  unfold cntRow
  apply List.map_congr_left
  intro q _
  simp [List.filter_append, hf]

def byPage (x : Slot) (q : Nat) : Bool := decide (x.page = (q : Int))
def bySheet (x : Slot) (t : Nat) : Bool := decide (0 ≤ x.page ∧ x.sheet = (t : Int) + 1)

/-! ### The slots one by one -/
theorem slot_bd (p : Plan) (n : Int) (h : mayP p = true) (h0 : 0 ≤ n) (h1 : n ≤ 999999) (x : Slot) (hx : x ∈ allP p n) :
    1 ≤ x.sheet ∧ x.sheet ≤ cntP p n ∧ 1 ≤ x.side ∧ x.side ≤ p.sides ∧ 0 ≤ x.row ∧ x.row < p.rows ∧ 0 ≤ x.col ∧ x.col < p.cols ∧ -1 ≤ x.page ∧ x.page < n + (if n = 0 then 1 else 0) := by
  have hx' := hx
  unfold allP at hx
  rw [if_pos ⟨h, h0, h1⟩] at hx
  obtain ⟨j, hj, rfl⟩ := List.mem_map.1 hx
  rw [List.mem_range] at hj
  have hc := cntN_int p n h h0 h1
  have hp := perP_pos p h
  have hpage : -1 ≤ (slotP p n j).page ∧ (slotP p n j).page < n + (if n = 0 then 1 else 0) := by
    obtain ⟨i, _, e⟩ := (mem_all p n h h0 h1 _).1 hx'
    rw [← e, page_prog]
    split <;> split <;> omega
  have hjs : j / perP p < cntN p n := Nat.div_lt_of_lt_mul (by rw [Nat.mul_comm]; exact hj)
  refine ⟨?_, ?_, ?_, ?_, ?_, ?_, ?_, ?_, hpage.1, hpage.2⟩
  all_goals
    rcases may_cases p h with g | g
    · unfold slotP
      rw [if_pos g.1]
      unfold gridAt
      simp only
      have a2 := Nat.mod_lt (j / (p.rows.toNat * p.cols.toNat)) (show 0 < p.sides.toNat by omega)
      have a3 := Nat.mod_lt (j / p.cols.toNat) (show 0 < p.rows.toNat by omega)
      have a4 := Nat.mod_lt j (show 0 < p.cols.toNat by omega)
      have e : p.rows.toNat * p.cols.toNat * p.sides.toNat = perP p := rfl
      (try rw [e])
      generalize j / perP p = y1 at *
      generalize j / (p.rows.toNat * p.cols.toNat) % p.sides.toNat = y2 at *
      generalize j / p.cols.toNat % p.rows.toNat = y3 at *
      generalize j % p.cols.toNat = y4 at *
      omega
    · have e4 := perP_book p h (by omega)
      rw [e4] at hjs
      unfold slotP
      rw [if_neg (by omega)]
      unfold bookAt
      simp only
      omega

theorem len_int (p : Plan) (n : Int) (h : mayP p = true) (h0 : 0 ≤ n) (h1 : n ≤ 999999) : ((allP p n).length : Int) = cntP p n * p.rows * p.cols * p.sides := by
  rw [len_all p n h h0 h1, Int.natCast_mul, cntN_int p n h h0 h1, perP_int p h, Int.mul_assoc, Int.mul_assoc, Int.mul_assoc]
theorem cnt_pos (p : Plan) (n : Int) (h : mayP p = true) (h0 : 1 ≤ n) (h1 : n ≤ 999999) : 1 ≤ cntP p n := by
  rw [← cntN_int p n h (by omega) h1]
  have := (cnt_bd p n h).1
  rcases Nat.eq_zero_or_pos (cntN p n) with e | e
  · rw [e] at this; omega
  · omega

theorem range_one (N q : Nat) (h : q < N) : ((List.range N).filter fun j => decide (j = q)).length = 1 := by
  induction N with
  | zero => omega
  | succ N ih =>
    rw [List.range_succ, List.filter_append, List.length_append]
    by_cases e : q = N
    · subst e
      have : (List.range q).filter (fun j => decide (j = q)) = [] := by
        rw [List.filter_eq_nil_iff]; intro j hj; rw [List.mem_range] at hj; simp; omega
      rw [this]; simp
    · rw [ih (by omega)]
      simp [Ne.symm e]
theorem range_lt (N n : Nat) (h : n ≤ N) : ((List.range N).filter fun j => decide (j < n)).length = n := by
  induction N with
  | zero => have : n = 0 := by omega
            subst this; rfl
  | succ N ih =>
    rw [List.range_succ, List.filter_append, List.length_append]
    by_cases e : n = N + 1
    · subst e
      have : (List.range N).filter (fun j => decide (j < N + 1)) = List.range N := by
        rw [List.filter_eq_self]; intro j hj; rw [List.mem_range] at hj; simp; omega
      rw [this]; simp
    · rw [ih (by omega)]
      simp; omega

/-- Each page stands in one slot. -/
theorem page_once (p : Plan) (n : Int) (h : mayP p = true) (h0 : 0 ≤ n) (h1 : n ≤ 999999) (q : Nat) (hq : (q : Int) < n) : ((allP p n).filter (byPage · q)).length = 1 := by
  rw [← ((perm_prog p n h h0 h1).filter _).length_eq, List.filter_map, List.length_map]
  rw [← range_one (cntN p n * perP p) q (lt_len p n h q hq)]
  congr 1
  apply List.filter_congr
  intro j _
  simp only [Function.comp, byPage, page_prog]
  rw [decide_eq_decide]
  split <;> omega
theorem cntPg_all (p : Plan) (n : Int) (h : mayP p = true) (h0 : 0 ≤ n) (h1 : n ≤ 999999) : ((cntPg (allP p n) : Nat) : Int) = n := by
  unfold cntPg
  rw [← ((perm_prog p n h h0 h1).filter _).length_eq, List.filter_map, List.length_map]
  have e : (List.range (cntN p n * perP p)).filter ((fun x : Slot => decide (0 ≤ x.page)) ∘ progAt p n) = (List.range (cntN p n * perP p)).filter fun j => decide (j < n.toNat) := by
    apply List.filter_congr
    intro j _
    simp only [Function.comp, page_prog]
    rw [decide_eq_decide]
    split <;> omega
  rw [e, range_lt _ _ (cnt_bd p n h).1]
  omega

/-- Each sheet has a page. -/
theorem sheet_some (p : Plan) (n : Int) (h : mayP p = true) (h0 : 1 ≤ n) (h1 : n ≤ 999999) (t : Nat) (ht : (t : Int) < cntP p n) : 0 < ((allP p n).filter (bySheet · t)).length := by
  rw [← cntN_int p n h (by omega) h1] at ht
  have ht' : t < cntN p n := by omega
  have hp := perP_pos p h
  have hb := cnt_bd p n h
  have hmul : (t + 1) * perP p ≤ cntN p n * perP p := Nat.mul_le_mul_right _ ht'
  rw [Nat.succ_mul] at hmul
  rw [List.length_pos_iff_exists_mem]
  have hin : ∀ j, j < cntN p n * perP p → slotP p n j ∈ allP p n := fun j hj => by
    unfold allP; rw [if_pos ⟨h, by omega, h1⟩]
    exact List.mem_map.2 ⟨j, List.mem_range.2 hj, rfl⟩
  rcases may_cases p h with g | g
  · refine ⟨slotP p n (t * perP p), List.mem_filter.2 ⟨hin _ (by omega), ?_⟩⟩
    unfold slotP
    rw [if_pos g.1]
    unfold bySheet gridAt pg
    simp only
    have e : p.rows.toNat * p.cols.toNat * p.sides.toNat = perP p := rfl
    rw [e, Nat.mul_div_cancel _ hp.1, if_pos (by omega)]
    simp; omega
  · have e4 := perP_book p h (by omega)
    rw [e4] at hb hmul
    refine ⟨slotP p n (4 * t + 1), List.mem_filter.2 ⟨hin _ (by rw [e4]; omega), ?_⟩⟩
    unfold slotP
    rw [if_neg (by omega)]
    have hf := Go.Proofs.Shs.book_facts p.sheets.toNat (cntN p n) t (by omega) ht'
    have hbp : bookPage p.sheets.toNat (cntN p n) (4 * t + 1) ≤ 4 * t := by
      unfold bookPage first
      simp only
      rw [show (4 * t + 1) / 4 = t by omega, if_neg (by omega), if_pos (by omega), show t / p.sheets.toNat * (4 * p.sheets.toNat) = 4 * (t / p.sheets.toNat * p.sheets.toNat) by rw [Nat.mul_left_comm]]
      omega
    unfold bySheet bookAt pg
    simp only
    rw [if_pos (by omega), show (4 * t + 1) / 4 = t by omega]
    simp

/-! ### Read of them turned, without the first one, with the last one told twice -/
theorem places_all (p : Plan) (n : Int) : ((allP p n).map pl).Nodup := by
  refine List.Pairwise.map pl (fun a b h e => ?_) (pw_all p n)
  simp only [pl, Prod.mk.injEq] at e
  unfold Ahead at h
  omega
theorem cntPg_perm {a b : List Slot} (h : a.Perm b) : cntPg a = cntPg b := (h.filter _).length_eq
theorem read_turned (p : Plan) (n : Int) (h : mayP p = true) (h0 : 0 ≤ n) (h1 : n ≤ 999999) : ((cntPg (allP p n).reverse : Nat) : Int) = n ∧ ReadOk p (allP p n).reverse := by
  have hc : ((cntPg (allP p n).reverse : Nat) : Int) = n := by rw [cntPg_perm (List.reverse_perm _)]; exact cntPg_all p n h h0 h1
  refine ⟨hc, h, ?_, ?_, ?_⟩
  · rw [hc, List.length_reverse]
  · rw [((List.reverse_perm (allP p n)).map pl).nodup_iff]; exact places_all p n
  · intro x hx; rw [hc] at hx; exact List.mem_reverse.2 hx
theorem read_twice (p : Plan) (n : Int) (x : Slot) (hx : (allP p n)[0]? = some x) (h2 : 1 < (allP p n).length) : ¬ ReadOk p ((allP p n).reverse.set 0 x) := by
  rintro ⟨_, _, hn, _⟩
  have hl : ((allP p n).reverse.set 0 x).length = (allP p n).length := by simp
  have e0 : ((allP p n).reverse.set 0 x)[0]? = some x := by rw [List.getElem?_set_self (by simp; omega)]
  have e1 : ((allP p n).reverse.set 0 x)[(allP p n).length - 1]? = some x := by
    rw [List.getElem?_set_ne (by omega), List.getElem?_reverse (by omega), show (allP p n).length - 1 - ((allP p n).length - 1) = 0 by omega, hx]
  generalize (allP p n).reverse.set 0 x = l at *
  have q0 : (l.map pl)[0]? = some (pl x) := by rw [List.getElem?_map, e0]; rfl
  have q1 : (l.map pl)[(allP p n).length - 1]? = some (pl x) := by rw [List.getElem?_map, e1]; rfl
  have hk : (allP p n).length - 1 < (l.map pl).length := by simp; omega
  have := (List.getElem?_inj hk hn).1 (q1.trans q0.symm)
  omega
theorem read_less (p : Plan) (n : Int) (h : mayP p = true) (h0 : 1 ≤ n) (h1 : n ≤ 999999) (h2 : 1 < (allP p n).length) : ¬ ReadOk p (allP p n).tail := by
  rintro ⟨_, hl, _, hs⟩
  have hm := cntPg_all p n h (by omega) h1
  have hL := len_all p n h (by omega) h1
  cases hA : allP p n with
  | nil => rw [hA] at h2; simp at h2
  | cons x T =>
    rw [hA] at hl hs hm hL h2
    simp only [List.tail_cons] at hl hs
    have hcx : cntPg (x :: T) = cntPg T + if 0 ≤ x.page then 1 else 0 := by
      unfold cntPg; by_cases g : 0 ≤ x.page <;> simp [g]
    have hmle : ((cntPg T : Nat) : Int) ≤ n := by split at hcx <;> omega
    have hlT := len_all p (cntPg T) h (by omega) (by omega)
    simp only [List.length_cons] at hL h2
    have hp := perP_pos p h
    have hb := cnt_bd p n h
    have hbT := cnt_bd p (cntPg T) h
    rw [hl] at hlT
    have hmul : (cntN p n - cntN p (cntPg T)) * perP p = 1 := by rw [Nat.sub_mul]; omega
    have hper : perP p = 1 := Nat.dvd_one.1 ⟨_, by rw [Nat.mul_comm]; exact hmul.symm⟩
    rw [hper] at hb hbT hL hlT
    have hk : p.kind = 1 := Classical.byContradiction fun e => by have := perP_book p h e; omega
    -- the first slot bears page 0
    have hx0 : (allP p n)[0]? = some x := by rw [hA]; rfl
    have hxp : x.page = 0 := by
      unfold allP at hx0
      rw [if_pos ⟨h, by omega, h1⟩, List.getElem?_map, List.getElem?_range (by rw [hper]; omega)] at hx0
      simp only [Option.map_some, Option.some.injEq] at hx0
      subst hx0
      unfold slotP
      rw [if_pos hk]
      unfold gridAt pg
      simp only
      rw [if_pos (by omega)]; rfl
    have hT1 : (0 : Int) < ((cntPg T : Nat) : Int) := by rw [hxp] at hcx; simp at hcx; omega
    have h0T := hs _ (at_mem p (cntPg T) 0 h (by omega) (by omega) (by omega) hT1)
    have hin : atP p (cntPg T) 0 ∈ allP p n := by rw [hA]; exact List.mem_cons_of_mem _ h0T
    have e1 := (at_only p n 0 h (by omega) h1 (by omega) _ hin (page_at _ _ _)).2
    have e2 := (at_only p n 0 h (by omega) h1 (by omega) x (by rw [hA]; exact List.mem_cons_self ..) hxp).2
    have hn := places_all p n
    rw [hA, List.map_cons, List.nodup_cons] at hn
    exact hn.1 (by rw [e2, ← e1]; exact List.mem_map_of_mem h0T)
end Go.Proofs.Ythiplocjiamahaa
