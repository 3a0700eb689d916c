/-
  Pages put on sheets: the slots of a grid and of books, plain mathematics, no program in sight.
-/
namespace Go.Proofs.Shs

/-- A slot: sheet, side, row, column, page. -/
structure Slot where
  sheet : Int
  side : Int
  row : Int
  col : Int
  page : Int
instance : Inhabited Slot := ⟨⟨0, 0, 0, 0, 0⟩⟩

/-- A plan: kind, rows, columns, sides, sheets. -/
structure Plan where
  kind : Int
  rows : Int
  cols : Int
  sides : Int
  sheets : Int

def gridB (p : Plan) : Bool := decide (p.kind = 1 ∧ 1 ≤ p.rows ∧ p.rows ≤ 16 ∧ 1 ≤ p.cols ∧ p.cols ≤ 16 ∧ 1 ≤ p.sides ∧ p.sides ≤ 2 ∧ p.sheets = 0)
def bookB (p : Plan) : Bool := decide (p.kind = 2 ∧ 1 ≤ p.sheets ∧ p.sheets ≤ 64 ∧ p.rows = 1 ∧ p.cols = 2 ∧ p.sides = 2)
def mayP (p : Plan) : Bool := gridB p || bookB p

/-- How a slot stands to another one: it stands ahead. -/
def Ahead (a b : Slot) : Prop := a.sheet < b.sheet ∨ a.sheet = b.sheet ∧ (a.side < b.side ∨ a.side = b.side ∧ (a.row < b.row ∨ a.row = b.row ∧ a.col < b.col))
instance (a b : Slot) : Decidable (Ahead a b) := by unfold Ahead; infer_instance
theorem Ahead.irrefl (a : Slot) : ¬ Ahead a a := by unfold Ahead; omega
theorem Ahead.trans {a b c : Slot} (h : Ahead a b) (g : Ahead b c) : Ahead a c := by unfold Ahead at *; omega
theorem Ahead.asymm {a b : Slot} (h : Ahead a b) : ¬ Ahead b a := by unfold Ahead at *; omega

/-- -1 for a page that is none of n. -/
def pg (n at_ : Int) : Int := if at_ < n then at_ else -1

/-! ### The grid -/
def gridAt (r c s : Nat) (n : Int) (j : Nat) : Slot := ⟨(j / (r * c * s) + 1 : Nat), (j / (r * c) % s + 1 : Nat), (j / c % r : Nat), (j % c : Nat), pg n j⟩
theorem grid_rises (r c s : Nat) (hr : 0 < r) (hc : 0 < c) (hs : 0 < s) (n : Int) (i j : Nat) (h : i < j) : Ahead (gridAt r c s n i) (gridAt r c s n j) := by
  have step : ∀ b a d : Nat, 0 < b → a < d → a / b < d / b ∨ a / b = d / b ∧ a % b < d % b := by
    intro b a d hb had
    have h1 := Nat.div_add_mod a b
    have h2 := Nat.div_add_mod d b
    rcases Nat.lt_trichotomy (a / b) (d / b) with g | g | g
    · exact .inl g
    · right; rw [g] at h1; omega
    · have := Nat.div_le_div_right (c := b) (Nat.le_of_lt had); omega
  have e1 : ∀ x : Nat, x / (r * c) = x / c / r := fun x => by rw [Nat.div_div_eq_div_mul, Nat.mul_comm]
  have e2 : ∀ x : Nat, x / (r * c * s) = x / c / r / s := fun x => by rw [← e1, Nat.div_div_eq_div_mul]
  unfold Ahead gridAt
  simp only [e1, e2]
  rcases step c i j hc h with h | ⟨h, h'⟩
  · rcases step r _ _ hr h with h | ⟨h, h'⟩
    · rcases step s _ _ hs h with h | ⟨h, h'⟩
      · left; omega
      · right; refine ⟨by omega, ?_⟩; left; omega
    · right; rw [h]; refine ⟨rfl, ?_⟩; right; refine ⟨rfl, ?_⟩; left; omega
  · right; rw [h]; refine ⟨rfl, ?_⟩; right; refine ⟨rfl, ?_⟩; right; refine ⟨rfl, ?_⟩; omega

/-! ### The books -/
/-- Of the sheet t (from 0 on) of k-sheet books of s sheets, c sheets in all: the book's first page, its sheets, the place in it. -/
def first (s t : Nat) : Nat := t / s * (4 * s)
def many (s c t : Nat) : Nat := min s (c - t / s * s)
def bookPage (s c j : Nat) : Nat :=
  let t := j / 4
  let f := first s t
  let k := many s c t
  let i := t % s
  if j % 4 = 0 then f + 4 * k - 1 - 2 * i else if j % 4 = 1 then f + 2 * i else if j % 4 = 2 then f + 2 * i + 1 else f + 4 * k - 2 - 2 * i
def bookAt (s c : Nat) (n : Int) (j : Nat) : Slot := ⟨(j / 4 + 1 : Nat), (j % 4 / 2 + 1 : Nat), 0, (j % 2 : Nat), pg n (bookPage s c j)⟩
theorem book_rises (s c : Nat) (n : Int) (i j : Nat) (h : i < j) : Ahead (bookAt s c n i) (bookAt s c n j) := by
  unfold Ahead bookAt
  simp only
  have a1 : i = 4 * (i / 4) + 2 * (i % 4 / 2) + i % 2 := by omega
  have a2 : j = 4 * (j / 4) + 2 * (j % 4 / 2) + j % 2 := by omega
  have b1 : i % 4 / 2 < 2 := by omega
  have b2 : j % 4 / 2 < 2 := by omega
  have c1 := Nat.mod_lt i (show 0 < 2 by omega)
  have c2 := Nat.mod_lt j (show 0 < 2 by omega)
  generalize i / 4 = x1 at *
  generalize j / 4 = x2 at *
  generalize i % 4 / 2 = y1 at *
  generalize j % 4 / 2 = y2 at *
  generalize i % 2 = z1 at *
  generalize j % 2 = z2 at *
  by_cases g : x1 < x2
  · left; omega
  · obtain rfl : x1 = x2 := by omega
    refine .inr ⟨rfl, ?_⟩
    by_cases g : y1 < y2
    · left; omega
    · obtain rfl : y1 = y2 := by omega
      refine .inr ⟨rfl, .inr ⟨trivial, ?_⟩⟩
      omega

/-- How the program puts page q: sheet, side, column. -/
def placeOf (s c q : Nat) : Nat × Nat × Nat :=
  let m := q / (4 * s)
  let f := m * (4 * s)
  let k := min s (c - m * s)
  let i := q - f
  if 4 * k - 1 - i < i then (f / 4 + (4 * k - 1 - i) / 2 + 1, (4 * k - 1 - i) % 2 + 1, (4 * k - 1 - i) % 2) else (f / 4 + i / 2 + 1, i % 2 + 1, 1 - i % 2)

/-- The place in the row of page q. -/
def spotOf (s c q : Nat) : Nat :=
  let p := placeOf s c q
  (p.1 - 1) * 4 + (p.2.1 - 1) * 2 + p.2.2

theorem book_facts (s c t : Nat) (hs : 0 < s) (ht : t < c) : t % s < many s c t ∧ many s c t ≤ s ∧ t / s * s + many s c t ≤ c ∧ t = t / s * s + t % s := by
  have h1 := Nat.div_add_mod t s
  have h2 := Nat.mod_lt t hs
  rw [Nat.mul_comm] at h1
  unfold many
  omega

/-- The pages of the slots are those of the sheets. -/
theorem bookPage_lt (s c j : Nat) (hs : 0 < s) (hj : j < 4 * c) : bookPage s c j < 4 * c := by
  have ht : j / 4 < c := by omega
  obtain ⟨h1, h2, h3, h4⟩ := book_facts s c (j / 4) hs ht
  unfold bookPage first
  simp only
  generalize many s c (j / 4) = k at *
  have e : j / 4 / s * (4 * s) = 4 * (j / 4 / s * s) := by rw [Nat.mul_left_comm]
  rw [e]
  generalize j / 4 / s * s = f at *
  generalize j / 4 % s = i at *
  split
  · omega
  · split
    · omega
    · split <;> omega

/-- The page of a slot is put just there. -/
theorem spot_page (s c j : Nat) (hs : 0 < s) (hj : j < 4 * c) : placeOf s c (bookPage s c j) = (j / 4 + 1, j % 4 / 2 + 1, j % 2) := by
  have ht : j / 4 < c := by omega
  obtain ⟨h1, h2, h3, h4⟩ := book_facts s c (j / 4) hs ht
  obtain ⟨in_, hin, hq⟩ : ∃ in_, in_ < 4 * s ∧ bookPage s c j = j / 4 / s * (4 * s) + in_ ∧ in_ = (if j % 4 = 0 then 4 * many s c (j / 4) - 1 - 2 * (j / 4 % s) else if j % 4 = 1 then 2 * (j / 4 % s) else if j % 4 = 2 then 2 * (j / 4 % s) + 1 else 4 * many s c (j / 4) - 2 - 2 * (j / 4 % s)) := by
    refine ⟨_, ?_, ?_, rfl⟩
    · split
      · omega
      · split
        · omega
        · split <;> omega
    · unfold bookPage first
      simp only
      split
      · omega
      · split
        · omega
        · split <;> omega
  obtain ⟨hq, he⟩ := hq
  rw [hq]
  unfold placeOf
  have e0 : (j / 4 / s * (4 * s) + in_) / (4 * s) = j / 4 / s := by
    rw [Nat.mul_comm, Nat.mul_add_div (by omega), Nat.div_eq_of_lt hin, Nat.add_zero]
  simp only [e0]
  have e1 : min s (c - j / 4 / s * s) = many s c (j / 4) := rfl
  rw [e1]
  have e2 : j / 4 / s * (4 * s) = 4 * (j / 4 / s * s) := by rw [Nat.mul_left_comm]
  rw [e2]
  generalize many s c (j / 4) = k at *
  generalize j / 4 / s * s = f at *
  generalize j / 4 % s = i at *
  have e3 : 4 * f + in_ - 4 * f = in_ := by omega
  rw [e3]
  have hj4 := Nat.mod_lt j (show 0 < 4 by omega)
  have e4 : j % 2 = j % 4 % 2 := by omega
  rw [e4]
  generalize j / 4 = t at *
  generalize j % 4 = z at *
  rcases (show z = 0 ∨ z = 1 ∨ z = 2 ∨ z = 3 by omega) with rfl | rfl | rfl | rfl
  · simp at he
    rw [if_pos (by omega)]
    simp only [Prod.mk.injEq]; omega
  · simp at he
    rw [if_neg (by omega)]
    simp only [Prod.mk.injEq]; omega
  · simp at he
    rw [if_neg (by omega)]
    simp only [Prod.mk.injEq]; omega
  · simp at he
    rw [if_pos (by omega)]
    simp only [Prod.mk.injEq]; omega

/-- The program's own reckoning. -/
def bkAt (sh n q : Int) : Slot :=
  let f := q - q % (4 * sh)
  let k := if (n - f + 4 - 1) / 4 < sh then (n - f + 4 - 1) / 4 else sh
  let i := q - f
  let l := 4 * k - 1 - i
  if l < i then ⟨f / 4 + l / 2 + 1, l % 2 + 1, 0, l % 2, q⟩ else ⟨f / 4 + i / 2 + 1, i % 2 + 1, 0, 1 - i % 2, q⟩

/-- Which slot a page has in the program's reckoning. -/
def atP (p : Plan) (n q : Int) : Slot := if p.kind = 1 then ⟨q / (p.rows * p.cols * p.sides) + 1, q / (p.rows * p.cols) % p.sides + 1, q / p.cols % p.rows, q % p.cols, q⟩ else bkAt p.sheets n q

/-! ### Lists: one that strictly rises is the only sorted one of its elements -/
theorem perm_of_subset {α : Type} [DecidableEq α] : ∀ (a b : List α), a.Nodup → (∀ x, x ∈ a → x ∈ b) → a.length = b.length → a.Perm b
  | [], b, _, _, hl => by
    have : b = [] := List.eq_nil_of_length_eq_zero hl.symm
    rw [this]
  | x :: r, b, hn, hs, hl => by
    obtain ⟨h1, h2⟩ := List.nodup_cons.1 hn
    have hx := hs x (List.mem_cons_self ..)
    have hp := List.perm_cons_erase hx
    refine List.Perm.trans (List.Perm.cons x ?_) hp.symm
    refine perm_of_subset r (b.erase x) h2 (fun y hy => ?_) ?_
    · have hy' := hs y (List.mem_cons_of_mem _ hy)
      have hne : y ≠ x := fun e => h1 (e ▸ hy)
      exact (List.mem_erase_of_ne hne).2 hy'
    · rw [List.length_erase_of_mem hx]
      simp at hl
      omega

theorem sorted_only {α : Type} (lt : α → α → Prop) (asym : ∀ a b, lt a b → ¬ lt b a) : ∀ (R d : List α), R.Pairwise lt → d.Pairwise (fun a b => ¬ lt b a) → d.Perm R → d = R
  | [], d, _, _, hp => List.Perm.eq_nil hp
  | r :: R, [], _, _, hp => absurd hp.symm.eq_nil (by simp)
  | r :: R, x :: d, hR, hd, hp => by
    obtain ⟨a1, a2⟩ := List.pairwise_cons.1 hR
    obtain ⟨b1, b2⟩ := List.pairwise_cons.1 hd
    have hx : x ∈ r :: R := hp.mem_iff.1 (List.mem_cons_self ..)
    have hr : r ∈ x :: d := hp.mem_iff.2 (List.mem_cons_self ..)
    have e : x = r := by
      rcases List.mem_cons.1 hx with h | h
      · exact h
      · rcases List.mem_cons.1 hr with g | g
        · exact g.symm
        · exact absurd (a1 x h) (b1 r g)
    subst e
    rw [sorted_only lt asym R d a2 b2 (List.Perm.cons_inv hp)]

/-! ### All slots -/
theorem may_cases (p : Plan) (h : mayP p = true) : (p.kind = 1 ∧ 1 ≤ p.rows ∧ p.rows ≤ 16 ∧ 1 ≤ p.cols ∧ p.cols ≤ 16 ∧ 1 ≤ p.sides ∧ p.sides ≤ 2 ∧ p.sheets = 0) ∨ (p.kind = 2 ∧ 1 ≤ p.sheets ∧ p.sheets ≤ 64 ∧ p.rows = 1 ∧ p.cols = 2 ∧ p.sides = 2) := by
  unfold mayP gridB bookB at h
  simpa using h
/-- How many sheets n pages need. -/
def cntP (p : Plan) (n : Int) : Int := if mayP p = true ∧ 0 ≤ n ∧ n ≤ 999999 then (if p.kind = 1 then (n + p.rows * p.cols * p.sides - 1) / (p.rows * p.cols * p.sides) else (n + 4 - 1) / 4) else 0
/-- The slots on one sheet. -/
def perP (p : Plan) : Nat := p.rows.toNat * p.cols.toNat * p.sides.toNat
def cntN (p : Plan) (n : Int) : Nat := (n.toNat + perP p - 1) / perP p
def slotP (p : Plan) (n : Int) (j : Nat) : Slot := if p.kind = 1 then gridAt p.rows.toNat p.cols.toNat p.sides.toNat n j else bookAt p.sheets.toNat (cntN p n) n j
def allP (p : Plan) (n : Int) : List Slot := if mayP p = true ∧ 0 ≤ n ∧ n ≤ 999999 then (List.range (cntN p n * perP p)).map (slotP p n) else []

theorem perP_pos (p : Plan) (h : mayP p = true) : 0 < perP p ∧ perP p ≤ 512 := by
  unfold perP
  rcases may_cases p h with ⟨_, h1, h2, h3, h4, h5, h6, _⟩ | ⟨_, _, _, h1, h2, h3⟩
  · have a1 : 1 * 1 ≤ p.rows.toNat * p.cols.toNat := Nat.mul_le_mul (by omega) (by omega)
    have a2 : p.rows.toNat * p.cols.toNat ≤ 16 * 16 := Nat.mul_le_mul (by omega) (by omega)
    have a3 : 1 * 1 ≤ p.rows.toNat * p.cols.toNat * p.sides.toNat := Nat.mul_le_mul (by omega) (by omega)
    have a4 : p.rows.toNat * p.cols.toNat * p.sides.toNat ≤ 256 * 2 := Nat.mul_le_mul (by omega) (by omega)
    omega
  · rw [h1, h2, h3]; decide
theorem perP_int (p : Plan) (h : mayP p = true) : ((perP p : Nat) : Int) = p.rows * p.cols * p.sides := by
  unfold perP
  have hh : 0 ≤ p.rows ∧ 0 ≤ p.cols ∧ 0 ≤ p.sides := by rcases may_cases p h with h | h <;> omega
  rw [Int.natCast_mul, Int.natCast_mul, Int.toNat_of_nonneg hh.1, Int.toNat_of_nonneg hh.2.1, Int.toNat_of_nonneg hh.2.2]
theorem perP_book (p : Plan) (h : mayP p = true) (h2 : p.kind ≠ 1) : perP p = 4 := by
  unfold perP
  rcases may_cases p h with ⟨h1, _⟩ | ⟨_, _, _, h1, h2, h3⟩
  · exact absurd h1 h2
  · rw [h1, h2, h3]; rfl
theorem cntN_int (p : Plan) (n : Int) (h : mayP p = true) (h0 : 0 ≤ n) (h1 : n ≤ 999999) : ((cntN p n : Nat) : Int) = cntP p n := by
  have hp := (perP_pos p h).1
  unfold cntN cntP
  rw [if_pos ⟨h, h0, h1⟩, Int.natCast_ediv]
  have e : ((n.toNat + perP p - 1 : Nat) : Int) = n + (perP p : Nat) - 1 := by omega
  rw [e]
  split
  · rw [perP_int p h]
  · rename_i hk; rw [perP_book p h hk]; rfl
theorem cnt_bd (p : Plan) (n : Int) (h : mayP p = true) : n.toNat ≤ cntN p n * perP p ∧ cntN p n * perP p < n.toNat + perP p := by
  have hp := (perP_pos p h).1
  unfold cntN
  have h1 := Nat.div_add_mod (n.toNat + perP p - 1) (perP p)
  have h2 := Nat.mod_lt (n.toNat + perP p - 1) hp
  rw [Nat.mul_comm] at h1
  omega
theorem pw_all (p : Plan) (n : Int) : (allP p n).Pairwise Ahead := by
  unfold allP
  split
  · rename_i h
    rw [List.pairwise_map]
    refine List.Pairwise.imp ?_ List.pairwise_lt_range
    intro i j hij
    unfold slotP
    split
    · have hh : 1 ≤ p.rows ∧ 1 ≤ p.cols ∧ 1 ≤ p.sides := by rcases may_cases p h.1 with h | h <;> omega
      exact grid_rises _ _ _ (by omega) (by omega) (by omega) n i j hij
    · exact book_rises _ _ n i j hij
  · exact List.Pairwise.nil

/-- A slot as the program puts it first. -/
def progAt (p : Plan) (n : Int) (q : Nat) : Slot := if n ≤ (q : Int) then { atP p n q with page := -1 } else atP p n q

theorem prog_grid (p : Plan) (n : Int) (j : Nat) (h : mayP p = true) (hk : p.kind = 1) : progAt p n j = slotP p n j := by
  have hh : 0 ≤ p.rows ∧ 0 ≤ p.cols ∧ 0 ≤ p.sides := by rcases may_cases p h with h | h <;> omega
  obtain ⟨r, hr⟩ := Int.eq_ofNat_of_zero_le hh.1
  obtain ⟨c, hc⟩ := Int.eq_ofNat_of_zero_le hh.2.1
  obtain ⟨s, hs⟩ := Int.eq_ofNat_of_zero_le hh.2.2
  unfold progAt slotP atP gridAt pg
  rw [if_pos hk, if_pos hk, hr, hc, hs]
  simp only [Int.toNat_natCast]
  by_cases h : n ≤ (j : Int)
  · rw [if_pos h, if_neg (by omega)]; simp
  · rw [if_neg h, if_pos (by omega)]; simp

theorem bk_place (s N q : Nat) (hs : 0 < s) (hq : q < 4 * ((N + 4 - 1) / 4)) : bkAt s N q = ⟨(placeOf s ((N + 4 - 1) / 4) q).1, (placeOf s ((N + 4 - 1) / 4) q).2.1, 0, (placeOf s ((N + 4 - 1) / 4) q).2.2, q⟩ := by
  unfold bkAt placeOf
  have e0 : (q : Int) % (4 * (s : Int)) = ((q % (4 * s) : Nat) : Int) := by simp
  simp only [e0]
  have m1 := Nat.div_add_mod q (4 * s)
  have m2 := Nat.mod_lt q (show 0 < 4 * s by omega)
  have e1 : q / (4 * s) * (4 * s) = 4 * (q / (4 * s) * s) := by rw [Nat.mul_left_comm]
  rw [Nat.mul_comm, e1] at m1
  rw [e1]
  generalize q % (4 * s) = m at *
  generalize q / (4 * s) * s = f at *
  have hc : ((N : Int) - ((q : Int) - (m : Int)) + 4 - 1) / 4 = (((N + 4 - 1) / 4 : Nat) : Int) - (f : Int) := by omega
  simp only [hc]
  generalize hC : (N + 4 - 1) / 4 = C at *
  have hk : (if (C : Int) - (f : Int) < (s : Int) then (C : Int) - (f : Int) else (s : Int)) = ((min s (C - f) : Nat) : Int) := by split <;> omega
  simp only [hk]
  generalize hK : min s (C - f) = K at *
  have hmk : m < 4 * K := by omega
  have e2 : (q : Int) - ((q : Int) - (m : Int)) = (m : Int) := by omega
  have e3 : q - 4 * f = m := by omega
  simp only [e2, e3]
  by_cases g : 4 * K - 1 - m < m
  · rw [if_pos (by omega), if_pos g]
    simp only [Slot.mk.injEq]
    refine ⟨by omega, by omega, trivial, by omega, trivial⟩
  · rw [if_neg (by omega), if_neg g]
    simp only [Slot.mk.injEq]
    refine ⟨by omega, by omega, trivial, by omega, trivial⟩

theorem prog_book (p : Plan) (n : Int) (j : Nat) (h : mayP p = true) (h0 : 0 ≤ n) (hk : p.kind ≠ 1) (hj : j < cntN p n * perP p) : progAt p n (bookPage p.sheets.toNat (cntN p n) j) = slotP p n j := by
  have hp := perP_book p h hk
  have hs : 1 ≤ p.sheets := by rcases may_cases p h with h | h <;> omega
  obtain ⟨s, hs'⟩ := Int.eq_ofNat_of_zero_le (show 0 ≤ p.sheets by omega)
  obtain ⟨N, hN⟩ := Int.eq_ofNat_of_zero_le h0
  have hc : cntN p n = (N + 4 - 1) / 4 := by unfold cntN; rw [hp, hN]; rfl
  rw [hp, hc] at hj
  unfold progAt slotP atP bookAt pg
  rw [if_neg hk, if_neg hk, hc, hs', hN, Int.toNat_natCast]
  have hj' : j < 4 * ((N + 4 - 1) / 4) := by omega
  have hlt := bookPage_lt s _ j (by omega) hj'
  rw [bk_place s N _ (by omega) hlt, spot_page s _ j (by omega) hj']
  simp only
  split
  · rw [if_neg (by omega)]
  · rw [if_pos (by omega)]

theorem perm_prog (p : Plan) (n : Int) (h : mayP p = true) (h0 : 0 ≤ n) (h1 : n ≤ 999999) : ((List.range (cntN p n * perP p)).map (progAt p n)).Perm (allP p n) := by
  unfold allP
  rw [if_pos ⟨h, h0, h1⟩]
  by_cases hk : p.kind = 1
  · rw [List.map_congr_left (fun j _ => prog_grid p n j h hk)]
  · have hp := perP_book p h hk
    have hs : 1 ≤ p.sheets := by rcases may_cases p h with h | h <;> omega
    have hb : ∀ j, j < cntN p n * perP p → bookPage p.sheets.toNat (cntN p n) j < cntN p n * perP p := fun j hj => by
      rw [hp] at hj ⊢
      have := bookPage_lt p.sheets.toNat (cntN p n) j (by omega) (by omega)
      omega
    have hinj : ∀ i j, i < cntN p n * perP p → j < cntN p n * perP p → bookPage p.sheets.toNat (cntN p n) i = bookPage p.sheets.toNat (cntN p n) j → i = j := fun i j hi hj e => by
      rw [hp] at hi hj
      have a := spot_page p.sheets.toNat (cntN p n) i (by omega) (by omega)
      have b := spot_page p.sheets.toNat (cntN p n) j (by omega) (by omega)
      rw [e, b] at a
      simp only [Prod.mk.injEq] at a
      omega
    have hperm : ((List.range (cntN p n * perP p)).map (bookPage p.sheets.toNat (cntN p n))).Perm (List.range (cntN p n * perP p)) := by
      refine perm_of_subset _ _ ?_ ?_ (by simp)
      · have hnd : (List.range (cntN p n * perP p)).Nodup := List.nodup_range
        rw [List.Nodup, List.pairwise_map]
        refine List.Pairwise.imp_of_mem ?_ hnd
        intro a b ha hb' hab e
        exact hab (hinj a b (List.mem_range.1 ha) (List.mem_range.1 hb') e)
      · intro x hx
        obtain ⟨j, hj, rfl⟩ := List.mem_map.1 hx
        exact List.mem_range.2 (hb j (List.mem_range.1 hj))
    refine (hperm.symm.map _).trans ?_
    rw [List.map_map]
    show (List.map (fun j => progAt p n (bookPage p.sheets.toNat (cntN p n) j)) _).Perm _
    rw [List.map_congr_left (g := slotP p n) (fun j hj => prog_book p n j h h0 hk (List.mem_range.1 hj))]

/-- The only row of these slots in which none stands ahead of one before it. -/
theorem all_only (p : Plan) (n : Int) (d : List Slot) (h : mayP p = true) (h0 : 0 ≤ n) (h1 : n ≤ 999999) (hp : d.Perm ((List.range (cntN p n * perP p)).map (progAt p n))) (hs : d.Pairwise fun a b => ¬ Ahead b a) : d = allP p n :=
  sorted_only Ahead (fun _ _ h => h.asymm) _ _ (pw_all p n) hs (hp.trans (perm_prog p n h h0 h1))

end Go.Proofs.Shs
