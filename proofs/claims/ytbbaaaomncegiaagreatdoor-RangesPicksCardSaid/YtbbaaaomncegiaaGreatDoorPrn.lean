/-
  Plain mathematics of pages' texts: what a text of pages is, how it is read, line by line; there and back. No program in sight.
-/
import Derived.Lib.ItoaNum
namespace Go.Proofs.Prn
open Go.Lib

abbrev Bytes := List UInt8
structure Frag where
  node : Int
  atom : Int
  frm : Int
  x : Int
  y : Int
  w : Int
  h : Int
deriving DecidableEq
structure Page where
  no : Int
  kind : Int
  heads : List Frag
  flow : List Frag
  floats : List Frag
deriving DecidableEq
def Frag.nums (f : Frag) : List Int := [f.node, f.atom, f.frm, f.x, f.y, f.w, f.h]
theorem Frag.nums_inj {f g : Frag} (h : f.nums = g.nums) : f = g := by
  cases f; cases g
  simp only [Frag.nums, List.cons.injEq] at h
  obtain ⟨rfl, rfl, rfl, rfl, rfl, rfl, rfl, _⟩ := h
  rfl
theorem Frag.nums_len (f : Frag) : f.nums.length = 7 := rfl

/-! ### Writing -/
def wPage : Bytes := [112, 97, 103, 101]
def wHead : Bytes := [104, 101, 97, 100]
def wFlow : Bytes := [102, 108, 111, 119]
def wFloat : Bytes := [102, 108, 111, 97, 116]
def nearB (n : Int) : Bool := decide (n ≤ 999999999999999999) && decide (-999999999999999999 ≤ n)
def nearL (l : List Int) : Bool := l.all nearB
/-- The numbers, a blank ahead of each. -/
def numsB : List Int → Bytes
  | [] => []
  | n :: r => 32 :: itoa n ++ numsB r
def lineT (word : Bytes) (l : List Int) : Bytes := word ++ numsB l
def lineB (word : Bytes) (l : List Int) : Bytes := lineT word l ++ [10]
def fragsB (word : Bytes) : List Frag → Bytes
  | [] => []
  | f :: r => lineB word f.nums ++ fragsB word r
def Page.nums (p : Page) : List Int := [p.no, p.kind]
def pageB (p : Page) : Bytes := lineB wPage p.nums ++ fragsB wHead p.heads ++ fragsB wFlow p.flow ++ fragsB wFloat p.floats
def pagesB : List Page → Bytes
  | [] => []
  | p :: r => pageB p ++ pagesB r
def nearF (l : List Frag) : Bool := l.all fun f => nearL f.nums
def Page.near (p : Page) : Bool := nearL p.nums && nearF p.heads && nearF p.flow && nearF p.floats
def nearP (l : List Page) : Bool := l.all Page.near
def writeP (l : List Page) : Bytes × Int := if nearP l = true then (pagesB l, 0) else ([], 4)

theorem fragsB_append (word : Bytes) (a b : List Frag) : fragsB word (a ++ b) = fragsB word a ++ fragsB word b := by
  induction a with
  | nil => rfl
  | cons f r ih => simp only [List.cons_append, fragsB, ih, List.append_assoc]
theorem pagesB_append (a b : List Page) : pagesB (a ++ b) = pagesB a ++ pagesB b := by
  induction a with
  | nil => rfl
  | cons f r ih => simp only [List.cons_append, pagesB, ih, List.append_assoc]
theorem numsB_append (a b : List Int) : numsB (a ++ b) = numsB a ++ numsB b := by
  induction a with
  | nil => rfl
  | cons f r ih => simp only [List.cons_append, numsB, ih, List.append_assoc]

/-! ### Reading -/
def digB (c : UInt8) : Bool := decide (48 ≤ c.toNat) && decide (c.toNat ≤ 57)
def valD (l : Bytes) : Nat := l.foldl (fun n c => 10 * n + (c.toNat - 48)) 0
def natB (l : Bytes) : Bool := !l.isEmpty && l.all digB && decide (l.length ≤ 18) && (l.head? != some 48 || decide (l.length ≤ 1))
/-- The number that a field tells. -/
def numP : Bytes → Option Int
  | 45 :: r => if natB r && r.head? != some 48 then some (-(valD r : Int)) else none
  | l => if natB l then some (valD l : Int) else none
/-- What stands between blanks. -/
def fieldsP : Bytes → List Bytes
  | [] => [[]]
  | c :: r => if c = 32 then [] :: fieldsP r else match fieldsP r with
    | [] => [[c]]
    | f :: fs => (c :: f) :: fs
def rowP : List Bytes → Option (List Int)
  | [] => some []
  | f :: r => match numP f with
    | none => none
    | some n => match rowP r with
      | none => none
      | some l => some (n :: l)
def kindOf (w : Bytes) : Int := if w = wHead then 0 else if w = wFlow then 1 else if w = wFloat then 2 else -1
inductive Tell where
  | page (no kind : Int)
  | part (f : Frag) (k : Nat)
  | wrong
def pageOf : Option (List Int) → Tell
  | some [a, b] => .page a b
  | _ => .wrong
def partOf (k : Nat) : Option (List Int) → Tell
  | some [a, b, c, d, e, f, g] => .part ⟨a, b, c, d, e, f, g⟩ k
  | _ => .wrong
def tellP (line : Bytes) : Tell :=
  match fieldsP line with
  | [] => .wrong
  | w :: r => if w = wPage then pageOf (rowP r) else if kindOf w < 0 then .wrong else partOf (kindOf w).toNat (rowP r)

def addPart (p : Page) (f : Frag) : Nat → Page
  | 0 => { p with heads := p.heads ++ [f] }
  | 1 => { p with flow := p.flow ++ [f] }
  | _ => { p with floats := p.floats ++ [f] }
abbrev St := List Page × Nat
def takeP (st : St) : Tell → Option St
  | .page no kind => some (st.1 ++ [⟨no, kind, [], [], []⟩], 0)
  | .part f k => match st.1.reverse with
    | [] => none
    | p :: r => if k < st.2 then none else some (r.reverse ++ [addPart p f k], k)
  | .wrong => none
theorem takeP_part (pre : List Page) (p : Page) (last : Nat) (f : Frag) (k : Nat) : takeP (pre ++ [p], last) (.part f k) = if k < last then none else some (pre ++ [addPart p f k], k) := by
  simp only [takeP, List.reverse_append, List.reverse_cons, List.reverse_nil, List.nil_append, List.cons_append, List.reverse_reverse]
theorem takeP_part_nil (last : Nat) (f : Frag) (k : Nat) : takeP ([], last) (.part f k) = none := rfl

/-- The whole lines, and what stands behind the last LF. -/
def linesP : Bytes → List Bytes × Bytes
  | [] => ([], [])
  | c :: r => if c = 10 then ([] :: (linesP r).1, (linesP r).2) else match (linesP r).1 with
    | [] => ([], c :: (linesP r).2)
    | f :: fs => ((c :: f) :: fs, (linesP r).2)
def stepsP (st : St) (n : Nat) : List Bytes → St ⊕ Nat
  | [] => .inl st
  | l :: ls => match takeP st (tellP l) with
    | none => .inr (n + 1)
    | some st' => stepsP st' (n + 1) ls
/-- Pages, line, error. -/
def endP (t : Bytes) (n : Nat) : St ⊕ Nat → List Page × Nat × Int
  | .inr k => ([], k, 1)
  | .inl st => if t = [] then (st.1, 0, 0) else ([], n + 1, 1)
def resume (st : St) (n : Nat) (s : Bytes) : List Page × Nat × Int := endP (linesP s).2 (n + (linesP s).1.length) (stepsP st n (linesP s).1)
def parseP (s : Bytes) : List Page × Nat × Int := resume ([], 0) 0 s

theorem linesP_hit (t s : Bytes) (h : ∀ c ∈ t, c ≠ 10) : linesP (t ++ 10 :: s) = (t :: (linesP s).1, (linesP s).2) := by
  induction t with
  | nil => simp [linesP]
  | cons c r ih =>
    have := ih fun d hd => h d (by simp [hd])
    simp only [List.cons_append, linesP, this]
    rw [if_neg (h c (by simp))]
theorem linesP_miss (t : Bytes) (h : ∀ c ∈ t, c ≠ 10) : linesP t = ([], t) := by
  induction t with
  | nil => rfl
  | cons c r ih =>
    have := ih fun d hd => h d (by simp [hd])
    simp only [linesP, this]
    rw [if_neg (h c (by simp))]
theorem resume_nil (st : St) (n : Nat) : resume st n [] = (st.1, 0, 0) := rfl
theorem resume_miss (st : St) (n : Nat) (t : Bytes) (h : ∀ c ∈ t, c ≠ 10) (h0 : t ≠ []) : resume st n t = ([], n + 1, 1) := by
  unfold resume
  rw [linesP_miss t h]
  simp [stepsP, endP, h0]
theorem resume_hit (st : St) (n : Nat) (t s : Bytes) (h : ∀ c ∈ t, c ≠ 10) : resume st n (t ++ 10 :: s) = match takeP st (tellP t) with
    | none => ([], n + 1, 1)
    | some st' => resume st' (n + 1) s := by
  unfold resume
  rw [linesP_hit t s h]
  simp only [stepsP]
  cases hk : takeP st (tellP t) with
  | none => simp [endP]
  | some st' =>
    simp only [List.length_cons]
    rw [show n + ((linesP s).1.length + 1) = n + 1 + (linesP s).1.length by omega]
theorem resume_none {st : St} {n : Nat} {t s : Bytes} (h : ∀ c ∈ t, c ≠ 10) (hk : takeP st (tellP t) = none) : resume st n (t ++ 10 :: s) = ([], n + 1, 1) := by
  rw [resume_hit st n t s h, hk]
theorem resume_some {st st' : St} {n : Nat} {t s : Bytes} (h : ∀ c ∈ t, c ≠ 10) (hk : takeP st (tellP t) = some st') : resume st n (t ++ 10 :: s) = resume st' (n + 1) s := by
  rw [resume_hit st n t s h, hk]

/-- A text is cut at its first LF, or it has none. -/
theorem cut_or (s : Bytes) : (∃ t r, s = t ++ 10 :: r ∧ ∀ c ∈ t, c ≠ 10) ∨ ∀ c ∈ s, c ≠ 10 := by
  induction s with
  | nil => right; intro c hc; cases hc
  | cons c r ih =>
    by_cases hc : c = 10
    · subst hc; exact .inl ⟨[], r, rfl, fun c hc => by cases hc⟩
    · rcases ih with ⟨t, r', rfl, h⟩ | h
      · refine .inl ⟨c :: t, r', rfl, fun d hd => ?_⟩
        rcases List.mem_cons.1 hd with rfl | hd
        · exact hc
        · exact h d hd
      · refine .inr fun d hd => ?_
        rcases List.mem_cons.1 hd with rfl | hd
        · exact hc
        · exact h d hd

/-! ### Numbers -/
theorem snocInd {α : Type} {P : List α → Prop} (h0 : P []) (h1 : ∀ l x, P l → P (l ++ [x])) : ∀ l, P l := by
  have key : ∀ n l, l.length = n → P l := by
    intro n
    induction n with
    | zero => intro l hl; rw [List.eq_nil_of_length_eq_zero hl]; exact h0
    | succ n ih =>
      intro l hl
      have hne : l ≠ [] := fun e => by rw [e] at hl; cases hl
      rw [← List.dropLast_concat_getLast hne]
      exact h1 _ _ (ih _ (by simp; omega))
  exact fun l => key _ l rfl
theorem valD_snoc (l : Bytes) (c : UInt8) : valD (l ++ [c]) = 10 * valD l + (c.toNat - 48) := by unfold valD; rw [List.foldl_append]; rfl
theorem digB_iff (c : UInt8) : digB c = true ↔ 48 ≤ c.toNat ∧ c.toNat ≤ 57 := by simp [digB]
theorem valD_lt (l : Bytes) (h : l.all digB = true) : valD l < 10 ^ l.length := by
  induction l using snocInd with
  | h0 => simp [valD]
  | h1 l c ih =>
    rw [List.all_append, Bool.and_eq_true] at h
    have := ih h.1
    have hc := (digB_iff c).1 (by simpa using h.2)
    rw [valD_snoc, List.length_append, List.length_singleton, Nat.pow_succ]
    omega
theorem dig_of (u : Nat) (h : u < 10) : (UInt8.ofNat (48 + u)).toNat = 48 + u := by
  rw [UInt8.toNat_ofNat']
  exact Nat.mod_eq_of_lt (by omega)
theorem dec_small {u : Nat} (h : u < 10) : decDigits u = [UInt8.ofNat (48 + u)] := by rw [decDigits, dif_pos h]
theorem dec_big {u : Nat} (h : ¬ u < 10) : decDigits u = decDigits (u / 10) ++ [UInt8.ofNat (48 + u % 10)] := by rw [decDigits, dif_neg h]
theorem dec_digs (u : Nat) : (decDigits u).all digB = true := by
  induction u using Nat.strongRecOn with
  | _ u ih =>
    by_cases h : u < 10
    · rw [dec_small h]
      simp only [List.all_cons, List.all_nil, Bool.and_true]
      rw [digB_iff, dig_of u h]; omega
    · rw [dec_big h, List.all_append, ih (u / 10) (by omega)]
      simp only [List.all_cons, List.all_nil, Bool.and_true, Bool.true_and]
      rw [digB_iff, dig_of (u % 10) (by omega)]; omega
theorem dec_val (u : Nat) : valD (decDigits u) = u := by
  induction u using Nat.strongRecOn with
  | _ u ih =>
    by_cases h : u < 10
    · rw [dec_small h]
      show 10 * 0 + _ = u
      rw [dig_of u h]; omega
    · rw [dec_big h, valD_snoc, ih (u / 10) (by omega), dig_of (u % 10) (by omega)]; omega
theorem dec_ne (u : Nat) : decDigits u ≠ [] := by
  by_cases h : u < 10
  · rw [dec_small h]; simp
  · rw [dec_big h]; simp
theorem dec_head (u : Nat) (h : 1 ≤ u) : (decDigits u).head? ≠ some 48 := by
  induction u using Nat.strongRecOn with
  | _ u ih =>
    by_cases h' : u < 10
    · rw [dec_small h']
      intro e
      simp only [List.head?_cons, Option.some.injEq] at e
      have := congrArg UInt8.toNat e
      rw [dig_of u h'] at this
      have e48 : (48 : UInt8).toNat = 48 := rfl
      omega
    · rw [dec_big h']
      have := ih (u / 10) (by omega) (by omega)
      have hn := dec_ne (u / 10)
      cases hd : decDigits (u / 10) with
      | nil => exact absurd hd hn
      | cons c r => rw [hd] at this; simpa using this
theorem dec_len (k u : Nat) (h : u < 10 ^ (k + 1)) : (decDigits u).length ≤ k + 1 := by
  induction k generalizing u with
  | zero => rw [dec_small (by simpa using h)]; simp
  | succ k ih =>
    by_cases h' : u < 10
    · rw [dec_small h']; simp
    · rw [dec_big h', List.length_append, List.length_singleton]
      have := ih (u / 10) (by rw [Nat.pow_succ] at h; omega)
      omega
theorem dec_one (u : Nat) (h : u < 10) : (decDigits u).length = 1 := by rw [dec_small h]; rfl
theorem natB_dec (u : Nat) (h : u ≤ 999999999999999999) : natB (decDigits u) = true := by
  have h1 := dec_len 17 u (by omega)
  unfold natB
  rw [dec_digs u]
  have hn : (decDigits u).isEmpty = false := by cases hd : decDigits u with
    | nil => exact absurd hd (dec_ne u)
    | cons c r => rfl
  rw [hn, decide_eq_true (by omega : (decDigits u).length ≤ 18)]
  rcases Nat.eq_zero_or_pos u with e | e
  · subst e
    rw [dec_one 0 (by omega)]
    simp
  · have := dec_head u e
    have hb : ((decDigits u).head? != some 48) = true := by simpa using this
    rw [hb]; rfl
theorem ofNat_toNat (c : UInt8) (h : 48 ≤ c.toNat) : UInt8.ofNat (48 + (c.toNat - 48)) = c := by
  rw [show 48 + (c.toNat - 48) = c.toNat by omega]
  simp
theorem valD_pos (l : Bytes) (h : l.all digB = true) (h0 : l ≠ []) (hd : l.head? ≠ some 48) : 1 ≤ valD l := by
  induction l using snocInd with
  | h0 => exact absurd rfl h0
  | h1 m c ih =>
    rw [List.all_append, Bool.and_eq_true] at h
    have hc := (digB_iff c).1 (by simpa using h.2)
    rw [valD_snoc]
    cases m with
    | nil =>
      have : c.toNat ≠ 48 := fun e => hd (by
        simp only [List.nil_append, List.head?_cons, Option.some.injEq]
        exact UInt8.toNat_inj.1 e)
      omega
    | cons a r =>
      have := ih h.1 (by simp) (by simpa using hd)
      omega
theorem dec_inv (l : Bytes) (h : l.all digB = true) (h0 : l ≠ []) (hd : l.head? ≠ some 48 ∨ l.length ≤ 1) : decDigits (valD l) = l := by
  induction l using snocInd with
  | h0 => exact absurd rfl h0
  | h1 m c ih =>
    rw [List.all_append, Bool.and_eq_true] at h
    have hc := (digB_iff c).1 (by simpa using h.2)
    rw [valD_snoc]
    cases m with
    | nil =>
      show decDigits (10 * 0 + _) = _
      rw [dec_small (by omega), Nat.mul_zero, Nat.zero_add, ofNat_toNat c hc.1]
      rfl
    | cons a r =>
      have hd' : (a :: r).head? ≠ some 48 := by
        rcases hd with hd | hd
        · simpa using hd
        · simp at hd
      have hp := valD_pos (a :: r) h.1 (by simp) hd'
      rw [dec_big (by omega), show (10 * valD (a :: r) + (c.toNat - 48)) / 10 = valD (a :: r) by omega, show (10 * valD (a :: r) + (c.toNat - 48)) % 10 = c.toNat - 48 by omega,
        ih h.1 (by simp) (.inl hd'), ofNat_toNat c hc.1]
theorem natB_spec {l : Bytes} (h : natB l = true) : l ≠ [] ∧ l.all digB = true ∧ l.length ≤ 18 ∧ (l.head? ≠ some 48 ∨ l.length ≤ 1) := by
  unfold natB at h
  simp only [Bool.and_eq_true, Bool.or_eq_true, decide_eq_true_eq, Bool.not_eq_true', bne_iff_ne, ne_eq] at h
  obtain ⟨⟨⟨h1, h2⟩, h3⟩, h4⟩ := h
  exact ⟨fun e => by rw [e] at h1; simp at h1, h2, h3, h4⟩
theorem valD_le {l : Bytes} (h : natB l = true) : valD l ≤ 999999999999999999 := by
  obtain ⟨_, h2, h3, _⟩ := natB_spec h
  have h4 := valD_lt l h2
  have h5 : 10 ^ l.length ≤ 10 ^ 18 := Nat.pow_le_pow_right (by omega) h3
  omega
theorem nearB_iff (n : Int) : nearB n = true ↔ n ≤ 999999999999999999 ∧ -999999999999999999 ≤ n := by simp [nearB]
theorem numP_pos {l : Bytes} (h : l.head? ≠ some 45) : numP l = if natB l then some (valD l : Int) else none := by
  cases l with
  | nil => rfl
  | cons c r =>
    have hc : c ≠ 45 := fun e => h (by rw [e]; rfl)
    unfold numP
    split
    · rename_i heq; cases heq; exact absurd rfl hc
    · rfl
theorem numP_neg (r : Bytes) : numP (45 :: r) = if natB r && r.head? != some 48 then some (-(valD r : Int)) else none := rfl
theorem head_dig {l : Bytes} (h : l.all digB = true) : l.head? ≠ some 45 := by
  cases l with
  | nil => simp
  | cons c r =>
    simp only [List.all_cons, Bool.and_eq_true] at h
    have := (digB_iff c).1 h.1
    intro e
    simp only [List.head?_cons, Option.some.injEq] at e
    rw [e] at this
    have e45 : (45 : UInt8).toNat = 45 := rfl
    omega
theorem numP_itoa {n : Int} (h : nearB n = true) : numP (itoa n) = some n := by
  rw [nearB_iff] at h
  unfold itoa
  by_cases hn : n < 0
  · rw [if_pos hn, numP_neg, natB_dec _ (by omega), dec_val]
    have hb : ((decDigits n.natAbs).head? != some 48) = true := by simpa using dec_head n.natAbs (by omega)
    rw [hb]
    simp only [Bool.and_self, if_true, Option.some.injEq]
    omega
  · rw [if_neg hn, numP_pos (head_dig (dec_digs _)), natB_dec _ (by omega), dec_val]
    simp only [if_true, Option.some.injEq]
    omega
theorem itoa_numP {f : Bytes} {n : Int} (h : numP f = some n) : itoa n = f ∧ nearB n = true := by
  rw [nearB_iff]
  by_cases hf : f.head? = some 45
  · cases f with
    | nil => cases hf
    | cons c r =>
      simp only [List.head?_cons, Option.some.injEq] at hf
      subst hf
      rw [numP_neg] at h
      split at h
      · rename_i hc
        simp only [Bool.and_eq_true, bne_iff_ne, ne_eq] at hc
        simp only [Option.some.injEq] at h
        obtain ⟨h1, h2, h3, h4⟩ := natB_spec hc.1
        have hv := valD_le hc.1
        have hp := valD_pos r h2 h1 hc.2
        subst h
        refine ⟨?_, by omega, by omega⟩
        unfold itoa
        rw [if_pos (by omega), show (-(valD r : Int)).natAbs = valD r by omega, dec_inv r h2 h1 h4]
      · cases h
  · rw [numP_pos hf] at h
    split at h
    · rename_i hc
      simp only [Option.some.injEq] at h
      obtain ⟨h1, h2, h3, h4⟩ := natB_spec hc
      have hv := valD_le hc
      subst h
      refine ⟨?_, by omega, by omega⟩
      unfold itoa
      rw [if_neg (by omega), Int.toNat_natCast, dec_inv f h2 h1 h4]
    · cases h
theorem itoa_bytes (n : Int) : ∀ c ∈ itoa n, c = 45 ∨ 48 ≤ c.toNat := by
  have key : ∀ u, ∀ c ∈ decDigits u, 48 ≤ c.toNat := fun u c hc => ((digB_iff c).1 (List.all_eq_true.1 (dec_digs u) c hc)).1
  intro c hc
  unfold itoa at hc
  split at hc
  · rcases List.mem_cons.1 hc with e | e
    · exact .inl e
    · exact .inr (key _ c e)
  · exact .inr (key _ c hc)
theorem itoa_no (n : Int) (d : UInt8) (hd : d = 32 ∨ d = 10) : ∀ c ∈ itoa n, c ≠ d := by
  rintro c hc rfl
  rcases itoa_bytes n c hc with e | e
  · rcases hd with h | h <;> rw [h] at e <;> cases e
  · rcases hd with h | h <;> rw [h] at e <;> exact absurd e (by decide)

/-! ### Fields -/
theorem fields_miss (t : Bytes) (h : ∀ c ∈ t, c ≠ 32) : fieldsP t = [t] := by
  induction t with
  | nil => rfl
  | cons c r ih =>
    have := ih fun d hd => h d (by simp [hd])
    simp only [fieldsP, this]
    rw [if_neg (h c (by simp))]
theorem fields_hit (t s : Bytes) (h : ∀ c ∈ t, c ≠ 32) : fieldsP (t ++ 32 :: s) = t :: fieldsP s := by
  induction t with
  | nil => simp [fieldsP]
  | cons c r ih =>
    have := ih fun d hd => h d (by simp [hd])
    simp only [List.cons_append, fieldsP, this]
    rw [if_neg (h c (by simp))]
theorem fields_line (w : Bytes) (l : List Int) (h : ∀ c ∈ w, c ≠ 32) : fieldsP (lineT w l) = w :: l.map itoa := by
  unfold lineT
  induction l generalizing w with
  | nil => rw [numsB, List.append_nil, fields_miss w h]; rfl
  | cons n r ih =>
    rw [numsB, List.cons_append, fields_hit _ _ h, ih (itoa n) (itoa_no n 32 (.inl rfl))]
    rfl
theorem fields_ne (s : Bytes) : fieldsP s ≠ [] := by
  induction s with
  | nil => simp [fieldsP]
  | cons c r ih =>
    unfold fieldsP
    split
    · simp
    · split <;> simp
/-- The fields with blanks between. -/
def joinF : List Bytes → Bytes
  | [] => []
  | f :: r => 32 :: f ++ joinF r
theorem fields_join (s : Bytes) : ∃ w r, fieldsP s = w :: r ∧ s = w ++ joinF r := by
  induction s with
  | nil => exact ⟨[], [], rfl, rfl⟩
  | cons c r ih =>
    obtain ⟨w, fs, e, h⟩ := ih
    unfold fieldsP
    by_cases hc : c = 32
    · rw [if_pos hc, e]
      exact ⟨[], w :: fs, rfl, by rw [joinF, hc, h]; rfl⟩
    · rw [if_neg hc, e]
      exact ⟨c :: w, fs, rfl, by rw [h]; rfl⟩
theorem rowP_map (l : List Int) (h : nearL l = true) : rowP (l.map itoa) = some l := by
  induction l with
  | nil => rfl
  | cons n r ih =>
    simp only [nearL, List.all_cons, Bool.and_eq_true] at h
    rw [List.map_cons, rowP, numP_itoa h.1, ih h.2]
theorem rowP_inv {fs : List Bytes} {l : List Int} (h : rowP fs = some l) : joinF fs = numsB l ∧ nearL l = true ∧ fs.length = l.length := by
  induction fs generalizing l with
  | nil => cases h; exact ⟨rfl, rfl, rfl⟩
  | cons f r ih =>
    unfold rowP at h
    cases hn : numP f with
    | none => rw [hn] at h; cases h
    | some n =>
      cases hr : rowP r with
      | none => rw [hn, hr] at h; cases h
      | some l' =>
        rw [hn, hr] at h
        simp only [Option.some.injEq] at h
        subst h
        obtain ⟨h1, h2, h3⟩ := ih hr
        obtain ⟨h4, h5⟩ := itoa_numP hn
        refine ⟨by rw [joinF, numsB, h1, h4], ?_, by simp [h3]⟩
        simp only [nearL, List.all_cons, Bool.and_eq_true]
        exact ⟨h5, h2⟩

/-! ### Lines -/
def wordOf : Nat → Bytes
  | 0 => wHead
  | 1 => wFlow
  | _ => wFloat
theorem word_no (k : Nat) : ∀ c ∈ wordOf k, c ≠ 32 ∧ c ≠ 10 := by
  match k with
  | 0 => decide
  | 1 => decide
  | k + 2 => show ∀ c ∈ wFloat, _; decide
theorem page_no : ∀ c ∈ wPage, c ≠ 32 ∧ c ≠ 10 := by decide
theorem kind_word (k : Nat) (hk : k < 3) : kindOf (wordOf k) = k ∧ wordOf k ≠ wPage := by
  match k, hk with
  | 0, _ => exact ⟨by decide, by decide⟩
  | 1, _ => exact ⟨by decide, by decide⟩
  | 2, _ => exact ⟨by decide, by decide⟩
theorem kind_inv (w : Bytes) (h : ¬ kindOf w < 0) : (kindOf w).toNat < 3 ∧ w = wordOf (kindOf w).toNat := by
  unfold kindOf at h ⊢
  split
  · rename_i e; exact ⟨by decide, e⟩
  · rename_i h0
    rw [if_neg h0] at h
    split
    · rename_i e; exact ⟨by decide, e⟩
    · rename_i h1
      rw [if_neg h1] at h
      split
      · rename_i e; exact ⟨by decide, e⟩
      · rename_i h2; rw [if_neg h2] at h; omega
theorem tell_page {a b : Int} (h : nearL [a, b] = true) : tellP (lineT wPage [a, b]) = .page a b := by
  unfold tellP
  rw [fields_line _ _ fun c hc => (page_no c hc).1]
  simp only [if_true]
  rw [rowP_map _ h]; rfl
theorem tell_part {f : Frag} {k : Nat} (hk : k < 3) (h : nearL f.nums = true) : tellP (lineT (wordOf k) f.nums) = .part f k := by
  obtain ⟨h1, h2⟩ := kind_word k hk
  unfold tellP
  rw [fields_line _ _ fun c hc => (word_no k c hc).1]
  simp only [if_neg h2, h1]
  rw [if_neg (by omega), rowP_map _ h]
  rfl
theorem pageOf_inv {o : Option (List Int)} {a b : Int} (h : pageOf o = .page a b) : o = some [a, b] := by
  unfold pageOf at h
  split at h
  · cases h; rfl
  · cases h
theorem partOf_inv {o : Option (List Int)} {k j : Nat} {f : Frag} (h : partOf k o = .part f j) : o = some f.nums ∧ k = j := by
  unfold partOf at h
  split at h
  · cases h; exact ⟨rfl, rfl⟩
  · cases h
theorem pageOf_part {o : Option (List Int)} {f : Frag} {k : Nat} : pageOf o ≠ .part f k := by
  unfold pageOf
  split <;> exact fun h => by cases h
theorem partOf_page {o : Option (List Int)} {k : Nat} {a b : Int} : partOf k o ≠ .page a b := by
  unfold partOf
  split <;> exact fun h => by cases h
theorem tell_page_inv {s : Bytes} {a b : Int} (h : tellP s = .page a b) : s = lineT wPage [a, b] ∧ nearL [a, b] = true := by
  obtain ⟨w, r, e, hs⟩ := fields_join s
  unfold tellP at h
  rw [e] at h
  simp only at h
  split at h
  · rename_i hw
    obtain ⟨h1, h2, _⟩ := rowP_inv (pageOf_inv h)
    exact ⟨by rw [hs, h1, hw]; rfl, h2⟩
  · split at h
    · cases h
    · exact absurd h partOf_page
theorem tell_part_inv {s : Bytes} {f : Frag} {k : Nat} (h : tellP s = .part f k) : k < 3 ∧ s = lineT (wordOf k) f.nums ∧ nearL f.nums = true := by
  obtain ⟨w, r, e, hs⟩ := fields_join s
  unfold tellP at h
  rw [e] at h
  simp only at h
  split at h
  · exact absurd h pageOf_part
  · split at h
    · cases h
    · rename_i hk
      obtain ⟨h3, h4⟩ := kind_inv w hk
      obtain ⟨ho, rfl⟩ := partOf_inv h
      obtain ⟨h1, h2, _⟩ := rowP_inv ho
      exact ⟨h3, by rw [hs, h1]; unfold lineT; rw [← h4], h2⟩
theorem nums_noLF (l : List Int) : ∀ c ∈ numsB l, c ≠ 10 := by
  induction l with
  | nil => intro c hc; cases hc
  | cons n r ih =>
    intro c hc
    simp only [numsB, List.cons_append, List.mem_cons, List.mem_append] at hc
    rcases hc with rfl | hc | hc
    · decide
    · exact itoa_no n 10 (.inr rfl) c hc
    · exact ih c hc
theorem line_noLF {w : Bytes} (h : ∀ c ∈ w, c ≠ 10) (l : List Int) : ∀ c ∈ lineT w l, c ≠ 10 := by
  intro c hc
  rcases List.mem_append.1 hc with hc | hc
  · exact h c hc
  · exact nums_noLF l c hc

/-! ### What was written is read as the pages -/
theorem addPart_kind (p : Page) (f : Frag) (k : Nat) : (addPart p f k).no = p.no ∧ (addPart p f k).kind = p.kind := by
  match k with
  | 0 => exact ⟨rfl, rfl⟩
  | 1 => exact ⟨rfl, rfl⟩
  | k + 2 => exact ⟨rfl, rfl⟩
def addAll (p : Page) (k : Nat) : List Frag → Page
  | [] => p
  | f :: r => addAll (addPart p f k) k r
theorem frags_run (k : Nat) (hk : k < 3) (l : List Frag) (pre : List Page) : ∀ (p : Page) (last n : Nat) (rest : Bytes), last ≤ k → nearF l = true →
    ∃ last' n', last' ≤ k ∧ resume (pre ++ [p], last) n (fragsB (wordOf k) l ++ rest) = resume (pre ++ [addAll p k l], last') n' rest := by
  induction l with
  | nil => intro p last n rest hl _; exact ⟨last, n, hl, rfl⟩
  | cons f r ih =>
    intro p last n rest hl h
    simp only [nearF, List.all_cons, Bool.and_eq_true] at h
    have hs : takeP (pre ++ [p], last) (tellP (lineT (wordOf k) f.nums)) = some (pre ++ [addPart p f k], k) := by
      rw [tell_part hk h.1, takeP_part, if_neg (by omega)]
    obtain ⟨last', n', h1, h2⟩ := ih (addPart p f k) k (n + 1) rest (Nat.le_refl _) h.2
    refine ⟨last', n', h1, ?_⟩
    rw [← addAll] at h2
    rw [← h2, fragsB, lineB]
    simp only [List.append_assoc, List.cons_append, List.nil_append]
    exact resume_some (line_noLF (fun c hc => (word_no k c hc).2) _) hs
theorem addAll0 (p : Page) (l : List Frag) : addAll p 0 l = { p with heads := p.heads ++ l } := by
  induction l generalizing p with
  | nil => simp [addAll]
  | cons f r ih => rw [addAll, ih]; simp [addPart]
theorem addAll1 (p : Page) (l : List Frag) : addAll p 1 l = { p with flow := p.flow ++ l } := by
  induction l generalizing p with
  | nil => simp [addAll]
  | cons f r ih => rw [addAll, ih]; simp [addPart]
theorem addAll2 (p : Page) (l : List Frag) : addAll p 2 l = { p with floats := p.floats ++ l } := by
  induction l generalizing p with
  | nil => simp [addAll]
  | cons f r ih => rw [addAll, ih]; simp [addPart]
theorem page_run (pre : List Page) (p : Page) (hp : p.near = true) (last n : Nat) (rest : Bytes) :
    ∃ last' n', resume (pre, last) n (pageB p ++ rest) = resume (pre ++ [p], last') n' rest := by
  simp only [Page.near, Bool.and_eq_true] at hp
  obtain ⟨⟨⟨h0, h1⟩, h2⟩, h3⟩ := hp
  have hs : takeP (pre, last) (tellP (lineT wPage p.nums)) = some (pre ++ [⟨p.no, p.kind, [], [], []⟩], 0) := by
    rw [Page.nums, tell_page h0]; rfl
  obtain ⟨l1, n1, e1, r1⟩ := frags_run 0 (by omega) p.heads pre ⟨p.no, p.kind, [], [], []⟩ 0 (n + 1) (fragsB wFlow p.flow ++ (fragsB wFloat p.floats ++ rest)) (Nat.le_refl _) h1
  obtain ⟨l2, n2, e2, r2⟩ := frags_run 1 (by omega) p.flow pre (addAll ⟨p.no, p.kind, [], [], []⟩ 0 p.heads) l1 n1 (fragsB wFloat p.floats ++ rest) (by omega) h2
  obtain ⟨l3, n3, e3, r3⟩ := frags_run 2 (by omega) p.floats pre (addAll (addAll ⟨p.no, p.kind, [], [], []⟩ 0 p.heads) 1 p.flow) l2 n2 rest (by omega) h3
  refine ⟨l3, n3, ?_⟩
  have ep : addAll (addAll (addAll ⟨p.no, p.kind, [], [], []⟩ 0 p.heads) 1 p.flow) 2 p.floats = p := by
    rw [addAll2, addAll1, addAll0]; simp
  rw [ep] at r3
  have c : resume (pre, last) n (pageB p ++ rest) = resume (pre ++ [⟨p.no, p.kind, [], [], []⟩], 0) (n + 1) (fragsB (wordOf 0) p.heads ++ (fragsB wFlow p.flow ++ (fragsB wFloat p.floats ++ rest))) := by
    unfold pageB lineB
    simp only [List.append_assoc, List.cons_append, List.nil_append]
    exact resume_some (line_noLF (fun c hc => (page_no c hc).2) _) hs
  rw [c, r1]
  exact r2.trans r3
theorem pages_run (ps : List Page) : ∀ (pre : List Page) (last n : Nat), nearP ps = true → resume (pre, last) n (pagesB ps) = (pre ++ ps, 0, 0) := by
  induction ps with
  | nil => intro pre last n _; rw [pagesB, resume_nil, List.append_nil]
  | cons p r ih =>
    intro pre last n h
    simp only [nearP, List.all_cons, Bool.and_eq_true] at h
    obtain ⟨l1, n1, e⟩ := page_run pre p h.1 last n (pagesB r)
    rw [pagesB, e, ih _ _ _ h.2]
    simp
theorem parse_write (ps : List Page) (h : nearP ps = true) : parseP (pagesB ps) = (ps, 0, 0) := by
  unfold parseP
  rw [pages_run ps [] 0 0 h, List.nil_append]
theorem pagesB_inj {a b : List Page} (ha : nearP a = true) (hb : nearP b = true) (h : pagesB a = pagesB b) : a = b := by
  have h1 := parse_write a ha
  rw [h, parse_write b hb] at h1
  injection h1 with h1 _
  exact h1.symm

/-! ### What is read, written, is the text -/
/-- The parts of kinds above the last one are none; all numbers are near. -/
def Good (st : St) : Prop := nearP st.1 = true ∧ ∀ pre p, st.1 = pre ++ [p] → (st.2 < 1 → p.flow = []) ∧ (st.2 < 2 → p.floats = [])
theorem last_eq {α : Type} {a b : List α} {x y : α} (h : a ++ [x] = b ++ [y]) : a = b ∧ x = y := by
  have := List.append_inj' h rfl
  exact ⟨this.1, by simpa using this.2⟩
theorem near_snoc (l : List Page) (p : Page) : nearP (l ++ [p]) = (nearP l && p.near) := by simp [nearP]
theorem nearF_snoc (l : List Frag) (f : Frag) : nearF (l ++ [f]) = (nearF l && nearL f.nums) := by simp [nearF]
theorem pagesB_one (p : Page) : pagesB [p] = pageB p := by simp [pagesB]
theorem fragsB_one (w : Bytes) (f : Frag) : fragsB w [f] = lineB w f.nums := by simp [fragsB]
theorem take_good {st st' : St} {t : Bytes} (hg : Good st) (h : takeP st (tellP t) = some st') : Good st' ∧ pagesB st'.1 = pagesB st.1 ++ (t ++ [10]) := by
  obtain ⟨out, last⟩ := st
  obtain ⟨hn, hk⟩ := hg
  cases ht : tellP t with
  | page a b =>
    rw [ht] at h
    simp only [takeP, Option.some.injEq] at h
    subst h
    obtain ⟨e, hab⟩ := tell_page_inv ht
    refine ⟨⟨?_, fun pre p he => ?_⟩, ?_⟩
    · rw [near_snoc, hn]
      simp only [Page.near, Page.nums, hab, nearF, List.all_nil, Bool.and_self]
    · obtain ⟨_, rfl⟩ := last_eq he
      exact ⟨fun _ => rfl, fun _ => rfl⟩
    · rw [pagesB_append, pagesB_one, e]
      simp [pageB, fragsB, lineB, Page.nums]
  | wrong => rw [ht] at h; cases h
  | part f k =>
    rw [ht] at h
    obtain ⟨hk3, e, hf⟩ := tell_part_inv ht
    rcases List.eq_nil_or_concat out with rfl | ⟨pre, p, rfl⟩
    · cases h
    · rw [List.concat_eq_append] at *
      rw [takeP_part] at h
      split at h
      · cases h
      · rename_i hlt
        simp only [Option.some.injEq] at h
        subst h
        obtain ⟨g1, g2⟩ := hk pre p rfl
        rw [near_snoc, Bool.and_eq_true] at hn
        have hp := hn.2
        simp only [Page.near, Bool.and_eq_true] at hp
        obtain ⟨⟨⟨p0, p1⟩, p2⟩, p3⟩ := hp
        simp only at g1 g2 hlt
        refine ⟨⟨?_, fun pre' p' he => ?_⟩, ?_⟩
        · rw [near_snoc, hn.1, Bool.true_and]
          match k, hk3 with
          | 0, _ => simp only [addPart, Page.near, Page.nums, Bool.and_eq_true, nearF_snoc]; exact ⟨⟨⟨p0, p1, hf⟩, p2⟩, p3⟩
          | 1, _ => simp only [addPart, Page.near, Page.nums, Bool.and_eq_true, nearF_snoc]; exact ⟨⟨⟨p0, p1⟩, p2, hf⟩, p3⟩
          | 2, _ => simp only [addPart, Page.near, Page.nums, Bool.and_eq_true, nearF_snoc]; exact ⟨⟨⟨p0, p1⟩, p2⟩, p3, hf⟩
        · obtain ⟨_, rfl⟩ := last_eq he
          match k, hk3 with
          | 0, _ => exact ⟨fun _ => g1 (by omega), fun _ => g2 (by omega)⟩
          | 1, _ => exact ⟨fun h => by simp at h, fun _ => g2 (by omega)⟩
          | 2, _ => exact ⟨fun h => by simp at h, fun h => by simp at h⟩
        · rw [pagesB_append, pagesB_append, pagesB_one, pagesB_one, e]
          match k, hk3 with
          | 0, _ =>
            have q1 := g1 (by omega)
            have q2 := g2 (by omega)
            simp [addPart, pageB, fragsB_append, Page.nums, lineB, q1, q2, fragsB, wordOf]
          | 1, _ =>
            have q2 := g2 (by omega)
            simp [addPart, pageB, fragsB_append, Page.nums, lineB, q2, fragsB, wordOf]
          | 2, _ => simp [addPart, pageB, fragsB_append, fragsB_one, Page.nums, lineB, wordOf]
theorem resume_good (s : Bytes) : ∀ (st : St) (n : Nat) (l : List Page) (line : Nat), Good st → resume st n s = (l, line, 0) → nearP l = true ∧ line = 0 ∧ pagesB l = pagesB st.1 ++ s := by
  have key : ∀ (m : Nat) (s : Bytes), s.length ≤ m → ∀ (st : St) (n : Nat) (l : List Page) (line : Nat), Good st → resume st n s = (l, line, 0) → nearP l = true ∧ line = 0 ∧ pagesB l = pagesB st.1 ++ s := by
    intro m
    induction m with
    | zero =>
      intro s hs st n l line hg h
      obtain rfl := List.eq_nil_of_length_eq_zero (by omega : s.length = 0)
      rw [resume_nil] at h
      cases h
      exact ⟨hg.1, rfl, by simp⟩
    | succ m ih =>
      intro s hs st n l line hg h
      rcases cut_or s with ⟨t, r, rfl, ht⟩ | hno
      · cases hk : takeP st (tellP t) with
        | none => rw [resume_none ht hk] at h; injection h with _ h; injection h with _ h; cases h
        | some st' =>
          rw [resume_some ht hk] at h
          obtain ⟨g', e'⟩ := take_good hg hk
          obtain ⟨h1, h2, h3⟩ := ih r (by simp at hs; omega) st' (n + 1) l line g' h
          exact ⟨h1, h2, by rw [h3, e']; simp⟩
      · by_cases h0 : s = []
        · subst h0
          rw [resume_nil] at h
          cases h
          exact ⟨hg.1, rfl, by simp⟩
        · rw [resume_miss st n s hno h0] at h
          injection h with _ h; injection h with _ h; cases h
  exact fun st n l line => key _ s (Nat.le_refl _) st n l line
theorem good_start : Good ([], 0) := ⟨rfl, fun pre p h => by simp at h⟩
theorem write_parse {s : Bytes} {l : List Page} {line : Nat} (h : parseP s = (l, line, 0)) : nearP l = true ∧ line = 0 ∧ pagesB l = s := by
  obtain ⟨h1, h2, h3⟩ := resume_good s ([], 0) 0 l line good_start h
  exact ⟨h1, h2, by rw [h3]; rfl⟩
/-- An answer is pages, or none, a line and the error. -/
theorem resume_form (s : Bytes) : ∀ (st : St) (n : Nat), (∃ l, resume st n s = (l, 0, 0)) ∨ ∃ k, n < k ∧ resume st n s = ([], k, 1) := by
  have key : ∀ (m : Nat) (s : Bytes), s.length ≤ m → ∀ (st : St) (n : Nat), (∃ l, resume st n s = (l, 0, 0)) ∨ ∃ k, n < k ∧ resume st n s = ([], k, 1) := by
    intro m
    induction m with
    | zero =>
      intro s hs st n
      obtain rfl := List.eq_nil_of_length_eq_zero (by omega : s.length = 0)
      exact .inl ⟨st.1, rfl⟩
    | succ m ih =>
      intro s hs st n
      rcases cut_or s with ⟨t, r, rfl, ht⟩ | hno
      · cases hk : takeP st (tellP t) with
        | none => exact .inr ⟨n + 1, by omega, resume_none ht hk⟩
        | some st' =>
          rw [resume_some ht hk]
          rcases ih r (by simp at hs; omega) st' (n + 1) with h | ⟨k, h1, h2⟩
          · exact .inl h
          · exact .inr ⟨k, by omega, h2⟩
      · by_cases h0 : s = []
        · subst h0; exact .inl ⟨st.1, rfl⟩
        · exact .inr ⟨n + 1, by omega, resume_miss st n s hno h0⟩
  exact key _ s (Nat.le_refl _)

/-! ### One text behind the other -/
theorem take_pre (pre out : List Page) (last : Nat) (x : Tell) (h : out ≠ []) : takeP (pre ++ out, last) x = (takeP (out, last) x).map fun st => (pre ++ st.1, st.2) := by
  cases x with
  | page a b => simp [takeP]
  | wrong => rfl
  | part f k =>
    rcases List.eq_nil_or_concat out with rfl | ⟨q, p, rfl⟩
    · exact absurd rfl h
    · rw [List.concat_eq_append, ← List.append_assoc, takeP_part, takeP_part]
      split <;> simp
theorem take_ne {st st' : St} {x : Tell} (h : takeP st x = some st') : st'.1 ≠ [] := by
  cases x with
  | page a b => simp only [takeP, Option.some.injEq] at h; subst h; simp
  | wrong => cases h
  | part f k =>
    simp only [takeP] at h
    split at h
    · cases h
    · split at h
      · cases h
      · simp only [Option.some.injEq] at h; subst h; simp
/-- The same pages ahead. -/
def ahead (pre : List Page) (a : List Page × Nat × Int) : List Page × Nat × Int := if a.2.2 = 0 then (pre ++ a.1, a.2) else a
theorem resume_pre (s : Bytes) (pre : List Page) : ∀ (out : List Page) (last n : Nat), out ≠ [] → resume (pre ++ out, last) n s = ahead pre (resume (out, last) n s) := by
  have key : ∀ (m : Nat) (s : Bytes), s.length ≤ m → ∀ (out : List Page) (last n : Nat), out ≠ [] → resume (pre ++ out, last) n s = ahead pre (resume (out, last) n s) := by
    intro m
    induction m with
    | zero =>
      intro s hs out last n _
      obtain rfl := List.eq_nil_of_length_eq_zero (by omega : s.length = 0)
      rfl
    | succ m ih =>
      intro s hs out last n hne
      rcases cut_or s with ⟨t, r, rfl, ht⟩ | hno
      · have hp := take_pre pre out last (tellP t) hne
        cases hk : takeP (out, last) (tellP t) with
        | none =>
          rw [hk] at hp
          rw [resume_none ht hk, resume_none ht hp]; rfl
        | some st' =>
          rw [hk] at hp
          rw [resume_some ht hk, resume_some ht hp]
          exact ih r (by simp at hs; omega) st'.1 st'.2 (n + 1) (take_ne hk)
      · by_cases h0 : s = []
        · subst h0; rfl
        · rw [resume_miss _ n s hno h0, resume_miss _ n s hno h0]; rfl
  exact key _ s (Nat.le_refl _)
theorem resume_shift (s : Bytes) (d : Nat) : ∀ (st : St) (n : Nat) (l : List Page), resume st n s = (l, 0, 0) → resume st (n + d) s = (l, 0, 0) := by
  have key : ∀ (m : Nat) (s : Bytes), s.length ≤ m → ∀ (st : St) (n : Nat) (l : List Page), resume st n s = (l, 0, 0) → resume st (n + d) s = (l, 0, 0) := by
    intro m
    induction m with
    | zero =>
      intro s hs st n l h
      obtain rfl := List.eq_nil_of_length_eq_zero (by omega : s.length = 0)
      exact h
    | succ m ih =>
      intro s hs st n l h
      rcases cut_or s with ⟨t, r, rfl, ht⟩ | hno
      · cases hk : takeP st (tellP t) with
        | none => rw [resume_none ht hk] at h; injection h with _ h; injection h with _ h; cases h
        | some st' =>
          rw [resume_some ht hk] at h ⊢
          rw [show n + d + 1 = n + 1 + d by omega]
          exact ih r (by simp at hs; omega) st' (n + 1) l h
      · by_cases h0 : s = []
        · subst h0; exact h
        · rw [resume_miss st n s hno h0] at h
          injection h with _ h; injection h with _ h; cases h
  exact key _ s (Nat.le_refl _)
/-- A text that is pages, read behind others. -/
theorem resume_behind (b : Bytes) (m : List Page) (h : parseP b = (m, 0, 0)) (pre : List Page) (last n : Nat) : resume (pre, last) n b = (pre ++ m, 0, 0) := by
  unfold parseP at h
  rcases cut_or b with ⟨t, r, rfl, ht⟩ | hno
  · cases hk : takeP ([], 0) (tellP t) with
    | none => rw [resume_none ht hk] at h; injection h with _ h; injection h with _ h; cases h
    | some st' =>
      rw [resume_some ht hk] at h
      cases hx : tellP t with
      | wrong => rw [hx] at hk; cases hk
      | part f k => rw [hx] at hk; cases hk
      | page x y =>
        have hk' : takeP (pre, last) (tellP t) = some (pre ++ [⟨x, y, [], [], []⟩], 0) := by rw [hx]; rfl
        rw [hx] at hk
        simp only [takeP, List.nil_append, Option.some.injEq] at hk
        subst hk
        rw [resume_some ht hk', resume_pre r pre _ 0 (n + 1) (by simp)]
        have := resume_shift r n _ _ _ h
        rw [show 0 + 1 + n = n + 1 by omega] at this
        rw [this]
        rfl
  · by_cases h0 : b = []
    · subst h0
      rw [resume_nil] at h ⊢
      cases h
      simp
    · rw [resume_miss _ _ b hno h0] at h
      injection h with _ h; injection h with _ h; cases h
theorem resume_app (a b : Bytes) (m : List Page) (hb : parseP b = (m, 0, 0)) : ∀ (st : St) (n : Nat) (l : List Page), resume st n a = (l, 0, 0) → resume st n (a ++ b) = (l ++ m, 0, 0) := by
  have key : ∀ (k : Nat) (a : Bytes), a.length ≤ k → ∀ (st : St) (n : Nat) (l : List Page), resume st n a = (l, 0, 0) → resume st n (a ++ b) = (l ++ m, 0, 0) := by
    intro k
    induction k with
    | zero =>
      intro s hs st n l h
      obtain rfl := List.eq_nil_of_length_eq_zero (by omega : s.length = 0)
      rw [resume_nil] at h
      cases h
      exact resume_behind b m hb st.1 st.2 n
    | succ k ih =>
      intro s hs st n l h
      rcases cut_or s with ⟨t, r, rfl, ht⟩ | hno
      · cases hk : takeP st (tellP t) with
        | none => rw [resume_none ht hk] at h; injection h with _ h; injection h with _ h; cases h
        | some st' =>
          rw [resume_some ht hk] at h
          rw [List.append_assoc, List.cons_append, resume_some ht hk]
          exact ih r (by simp at hs; omega) st' (n + 1) l h
      · by_cases h0 : s = []
        · subst h0
          rw [resume_nil] at h
          cases h
          exact resume_behind b m hb st.1 st.2 n
        · rw [resume_miss st n s hno h0] at h
          injection h with _ h; injection h with _ h; cases h
  exact key _ a (Nat.le_refl _)
theorem parse_app {a b : Bytes} {l m : List Page} (ha : parseP a = (l, 0, 0)) (hb : parseP b = (m, 0, 0)) : parseP (a ++ b) = (l ++ m, 0, 0) := resume_app a b m hb ([], 0) 0 l ha
/-- How many LF. -/
def lfs : Bytes → Nat
  | [] => 0
  | c :: r => (if c = 10 then 1 else 0) + lfs r
theorem lfs_append (a b : Bytes) : lfs (a ++ b) = lfs a + lfs b := by
  induction a with
  | nil => simp [lfs]
  | cons c r ih => simp only [List.cons_append, lfs, ih]; omega
theorem lfs_none (a : Bytes) (h : ∀ c ∈ a, c ≠ 10) : lfs a = 0 := by
  induction a with
  | nil => rfl
  | cons c r ih => rw [lfs, if_neg (h c (by simp)), ih fun d hd => h d (by simp [hd])]
theorem resume_wrong (a b : Bytes) : ∀ (st : St) (n k : Nat), resume st n a = ([], k, 1) → k ≤ n + lfs a → resume st n (a ++ b) = ([], k, 1) := by
  have key : ∀ (j : Nat) (a : Bytes), a.length ≤ j → ∀ (st : St) (n k : Nat), resume st n a = ([], k, 1) → k ≤ n + lfs a → resume st n (a ++ b) = ([], k, 1) := by
    intro j
    induction j with
    | zero =>
      intro s hs st n k h _
      obtain rfl := List.eq_nil_of_length_eq_zero (by omega : s.length = 0)
      rw [resume_nil] at h
      injection h with _ h; injection h with _ h; cases h
    | succ j ih =>
      intro s hs st n k h hle
      rcases cut_or s with ⟨t, r, rfl, ht⟩ | hno
      · rw [List.append_assoc, List.cons_append]
        cases hk : takeP st (tellP t) with
        | none =>
          rw [resume_none ht hk] at h ⊢
          exact h
        | some st' =>
          rw [resume_some ht hk] at h ⊢
          rw [lfs_append, lfs_none t ht, lfs, if_pos rfl] at hle
          exact ih r (by simp at hs; omega) st' (n + 1) k h (by omega)
      · by_cases h0 : s = []
        · subst h0
          rw [resume_nil] at h
          injection h with _ h; injection h with _ h; cases h
        · rw [resume_miss st n s hno h0] at h
          rw [lfs_none s hno] at hle
          injection h with _ h; injection h with h _
          omega
  exact key _ a (Nat.le_refl _)
theorem parse_wrong {a : Bytes} (b : Bytes) {k : Nat} (h : parseP a = ([], k, 1)) (hk : k ≤ lfs a) : parseP (a ++ b) = ([], k, 1) := resume_wrong a b ([], 0) 0 k h (by omega)
theorem parse_empty {a : Bytes} {k : Nat} (h : parseP a = ([], k, 0)) : a = [] := by
  have := (write_parse h).2.2
  exact this.symm
theorem parse_form (s : Bytes) : (∃ l, parseP s = (l, 0, 0)) ∨ ∃ k, 0 < k ∧ parseP s = ([], k, 1) := resume_form s ([], 0) 0
theorem lfs_le (a : Bytes) : lfs a ≤ a.length := by
  induction a with
  | nil => exact Nat.le_refl _
  | cons c r ih => simp only [lfs, List.length_cons]; split <;> omega
end Go.Proofs.Prn
