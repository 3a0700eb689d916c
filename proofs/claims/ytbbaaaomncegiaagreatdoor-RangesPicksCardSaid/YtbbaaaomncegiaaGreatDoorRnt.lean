/-
  Choices of pages as texts: how a text is read, part by part; how a choice is written; there and back. Plain mathematics, no program in sight.
-/
import Derived.Test.YtbbaaaomncegiaaGreatDoorRna
import Derived.Test.YtbbaaaomncegiaaGreatDoorPrn
namespace Go.Proofs.Rng
open Go.Lib Go.Proofs.Spn Go.Proofs.Prn

/-! ### Reading -/
/-- The number that a text begins with, of so many digits at most, some being read; and what is behind. -/
def numR : Nat → Nat → Bytes → Nat × Bytes
  | _, n, [] => (n, [])
  | 0, n, c :: r => (n, c :: r)
  | k + 1, n, c :: r => if digB c = true ∧ ¬ (n = 0 ∧ c = 48) then numR k (10 * n + (c.toNat - 48)) r else (n, c :: r)
def headR (s : Bytes) : Nat × Bytes := numR 6 0 s
def cutR (d : UInt8) : Bytes → Bytes × Bool
  | [] => ([], false)
  | c :: r => if c = d then (r, true) else (c :: r, false)
inductive Rd where
  | ok (s : Sp) (put : Bool)
  | wrong (k : Nat)
def readR (p : Bytes) : Rd :=
  if (headR (cutR 33 p).1).1 = 0 then .wrong (p.length - (headR (cutR 33 p).1).2.length) else
  if (cutR 45 (headR (cutR 33 p).1).2).2 = true then
    if (cutR 45 (headR (cutR 33 p).1).2).1 = [] then .ok ((headR (cutR 33 p).1).1, 1000000) (!(cutR 33 p).2)
    else if (headR (cutR 45 (headR (cutR 33 p).1).2).1).1 < (headR (cutR 33 p).1).1 then .wrong (p.length - (cutR 45 (headR (cutR 33 p).1).2).1.length)
    else if (headR (cutR 45 (headR (cutR 33 p).1).2).1).2 = [] then .ok ((headR (cutR 33 p).1).1, (headR (cutR 45 (headR (cutR 33 p).1).2).1).1 + 1) (!(cutR 33 p).2)
    else .wrong (p.length - (headR (cutR 45 (headR (cutR 33 p).1).2).1).2.length)
  else if (headR (cutR 33 p).1).2 = [] then .ok ((headR (cutR 33 p).1).1, (headR (cutR 33 p).1).1 + 1) (!(cutR 33 p).2)
  else .wrong (p.length - (headR (cutR 33 p).1).2.length)
def takeR (l : List Sp) (s : Sp) (put : Bool) : List Sp := if put then putS l s else takeS l s
/-- Choice, place, error. -/
def goR : List Bytes → Nat → List Sp → List Sp × Nat × Int
  | [], _, l => (l, 0, 0)
  | p :: r, a, l => match readR p with
    | .wrong k => ([], a + k, 1)
    | .ok s put => goR r (a + p.length + 1) (takeR l s put)
/-- What stands between commas. -/
def splitR : Bytes → List Bytes
  | [] => [[]]
  | c :: r => if c = 44 then [] :: splitR r else match splitR r with
    | [] => [[c]]
    | f :: fs => (c :: f) :: fs
def parseR (s : Bytes) : List Sp × Nat × Int := if s = [] then ([], 0, 0) else goR (splitR s) 0 []

/-! ### Writing -/
def oneR (s : Sp) : Bytes := itoa s.1 ++ (if s.2 = s.1 + 1 then [] else if s.2 = 1000000 then [45] else 45 :: itoa (s.2 - 1))
def joinR : List Bytes → Bytes
  | [] => []
  | [x] => x
  | x :: y :: r => x ++ 44 :: joinR (y :: r)
def writeR (l : List Sp) : Bytes := if mayB l then joinR (l.map oneR) else []

/-! ### Between commas -/
theorem splitR_ne (s : Bytes) : splitR s ≠ [] := by
  cases s with
  | nil => simp [splitR]
  | cons c r =>
    unfold splitR
    split
    · simp
    · split <;> simp
theorem split_join (s : Bytes) : joinR (splitR s) = s := by
  induction s with
  | nil => rfl
  | cons c r ih =>
    unfold splitR
    have hn := splitR_ne r
    split
    · rename_i hc
      subst hc
      cases hs : splitR r with
      | nil => exact absurd hs hn
      | cons f fs => rw [hs] at ih; show [] ++ 44 :: joinR (f :: fs) = _; rw [ih]; rfl
    · cases hs : splitR r with
      | nil => exact absurd hs hn
      | cons f fs =>
        rw [hs] at ih
        simp only
        cases fs with
        | nil => show c :: f = _; rw [← ih]; rfl
        | cons g gs => show c :: f ++ 44 :: joinR (g :: gs) = _; rw [← ih]; rfl
theorem split_hit (x r : Bytes) (h : ∀ c, c ∈ x → c ≠ 44) : splitR (x ++ 44 :: r) = x :: splitR r := by
  induction x with
  | nil => simp [splitR]
  | cons c x ih =>
    rw [List.cons_append, splitR, if_neg (h c (List.mem_cons_self ..)), ih fun d hd => h d (List.mem_cons_of_mem _ hd)]
theorem split_miss (x : Bytes) (h : ∀ c, c ∈ x → c ≠ 44) : splitR x = [x] := by
  induction x with
  | nil => rfl
  | cons c x ih =>
    rw [splitR, if_neg (h c (List.mem_cons_self ..)), ih fun d hd => h d (List.mem_cons_of_mem _ hd)]
theorem join_split (l : List Bytes) (hl : l ≠ []) (h : ∀ x, x ∈ l → ∀ c, c ∈ x → c ≠ 44) : splitR (joinR l) = l := by
  induction l with
  | nil => exact absurd rfl hl
  | cons x r ih =>
    cases r with
    | nil => exact split_miss x (h x (List.mem_cons_self ..))
    | cons y r =>
      show splitR (x ++ 44 :: joinR (y :: r)) = _
      rw [split_hit x _ (h x (List.mem_cons_self ..)), ih (by simp) fun z hz => h z (List.mem_cons_of_mem _ hz)]

/-! ### Numbers -/
def valF (n : Nat) (l : Bytes) : Nat := l.foldl (fun n c => 10 * n + (c.toNat - 48)) n
theorem valF_zero (l : Bytes) : valF 0 l = valD l := rfl
theorem valF_pos (l : Bytes) (n : Nat) (h : 0 < n) : 0 < valF n l := by
  induction l generalizing n with
  | nil => exact h
  | cons c r ih => exact ih _ (by simp only; omega)
theorem numR_app (ds rest : Bytes) : ∀ (k n : Nat), ds.length ≤ k → ds.all digB = true → (0 < n ∨ ds.head? ≠ some 48) → (∀ c r, rest = c :: r → digB c = false) → numR k n (ds ++ rest) = (valF n ds, rest) := by
  induction ds with
  | nil =>
    intro k n _ _ _ hr
    rw [List.nil_append]
    cases rest with
    | nil => cases k <;> rfl
    | cons c r =>
      cases k with
      | zero => rfl
      | succ k =>
        unfold numR
        rw [if_neg (by rw [hr c r rfl]; simp)]
        rfl
  | cons d ds ih =>
    intro k n hk hd h0 hr
    rw [List.all_cons, Bool.and_eq_true] at hd
    cases k with
    | zero => simp at hk
    | succ k =>
      rw [List.cons_append, numR]
      have hc := (digB_iff d).1 hd.1
      have hz : ¬ (n = 0 ∧ d = 48) := by
        rintro ⟨e1, e2⟩
        rcases h0 with h0 | h0
        · omega
        · exact h0 (by rw [e2]; rfl)
      rw [if_pos ⟨hd.1, hz⟩, ih k (10 * n + (d.toNat - 48)) (by simpa using hk) hd.2 (.inl ?_) hr]
      · rfl
      · rcases Nat.eq_zero_or_pos n with e | e
        · have : d.toNat ≠ 48 := fun e2 => hz ⟨e, UInt8.toNat_inj.1 e2⟩
          omega
        · omega
theorem itoa_nat (u : Nat) : itoa (u : Int) = decDigits u := by
  unfold itoa
  rw [if_neg (by omega), Int.toNat_natCast]
theorem headR_itoa (n : Int) (h1 : 1 ≤ n) (h2 : n ≤ 999999) (rest : Bytes) (hr : ∀ c r, rest = c :: r → digB c = false) : headR (itoa n ++ rest) = (n.toNat, rest) := by
  obtain ⟨u, rfl⟩ : ∃ u : Nat, n = u := ⟨n.toNat, by omega⟩
  rw [itoa_nat, Int.toNat_natCast]
  have hl := dec_len 5 u (by have : (10 : Nat) ^ (5 + 1) = 1000000 := by decide
                             omega)
  unfold headR
  rw [numR_app (decDigits u) rest 6 0 hl (dec_digs u) (.inr (dec_head u (by omega))) hr, valF_zero, dec_val]
theorem itoa_head (n : Int) (h : 1 ≤ n) : ∃ c r, itoa n = c :: r ∧ digB c = true := by
  obtain ⟨u, rfl⟩ : ∃ u : Nat, n = u := ⟨n.toNat, by omega⟩
  rw [itoa_nat]
  have h1 := dec_digs u
  cases hd : decDigits u with
  | nil => exact absurd hd (dec_ne u)
  | cons c r =>
    rw [hd, List.all_cons, Bool.and_eq_true] at h1
    exact ⟨c, r, rfl, h1.1⟩
theorem cutR_dig {d c : UInt8} {r : Bytes} (h : digB c = true) (hd : digB d = false) : cutR d (c :: r) = (c :: r, false) := by
  have hn : c ≠ d := fun e => by
    rw [e, hd] at h
    cases h
  show (if c = d then (r, true) else (c :: r, false)) = _
  rw [if_neg hn]

/-! ### There and back -/
theorem read_one (s : Sp) (h1 : 1 ≤ s.1) (h2 : s.1 < s.2) (h3 : s.2 ≤ 1000000) : readR (oneR s) = .ok s true := by
  obtain ⟨a, b⟩ := s
  simp only at h1 h2 h3
  obtain ⟨c, r, he, hc⟩ := itoa_head a h1
  have hn : a.toNat ≠ 0 := by omega
  have h33 : cutR 33 (oneR (a, b)) = (oneR (a, b), false) := by
    unfold oneR
    rw [he, List.cons_append]
    exact cutR_dig hc (by decide)
  have hno : digB 45 = false := by decide
  unfold readR
  rw [h33]
  simp only
  by_cases e1 : b = a + 1
  · have hh : headR (oneR (a, b)) = (a.toNat, []) := by
      unfold oneR
      rw [if_pos e1]
      exact headR_itoa a h1 (by omega) [] fun c r e => by cases e
    rw [hh, if_neg hn]
    simp only [cutR]
    rw [if_neg (by decide)]
    have : ((a.toNat : Nat) : Int) = a := by omega
    rw [this, e1]
    simp
  · by_cases e2 : b = 1000000
    · have hh : headR (oneR (a, b)) = (a.toNat, [45]) := by
        unfold oneR
        rw [if_neg e1, if_pos e2]
        exact headR_itoa a h1 (by omega) [45] fun c r e => by cases e; exact hno
      rw [hh, if_neg hn]
      simp only [cutR, if_true]
      have : ((a.toNat : Nat) : Int) = a := by omega
      rw [this, e2]
      rfl
    · obtain ⟨c', r', he', hc'⟩ := itoa_head (b - 1) (by omega)
      have hh : headR (oneR (a, b)) = (a.toNat, 45 :: itoa (b - 1)) := by
        unfold oneR
        rw [if_neg e1, if_neg e2]
        exact headR_itoa a h1 (by omega) (45 :: itoa (b - 1)) fun c r e => by cases e; exact hno
      have hh2 : headR (itoa (b - 1)) = ((b - 1).toNat, []) := by
        have := headR_itoa (b - 1) (by omega) (by omega) [] fun c r e => by cases e
        rwa [List.append_nil] at this
      have hne : itoa (b - 1) ≠ [] := by rw [he']; simp
      rw [hh, if_neg hn]
      simp only [cutR, if_true]
      rw [if_neg hne, hh2]
      simp only
      rw [if_neg (by omega), if_true]
      have e3 : ((a.toNat : Nat) : Int) = a := by omega
      have e4 : (((b - 1).toNat : Nat) : Int) + 1 = b := by omega
      rw [e3, e4]
      rfl
theorem put_next {pre : List Sp} {s : Sp} (h : May (pre ++ [s])) : putS pre s = pre ++ [s] := by
  have hf := h.front
  refine (put_may hf s).unique h fun y => ?_
  rw [put_in hf, InS_append, InS_one]
  have hs := h.2 s (by simp)
  constructor
  · rintro (k | k)
    · exact .inl k
    · exact .inr k.1
  · rintro (k | k)
    · exact .inl k
    · exact .inr ⟨k, by omega⟩
theorem go_write (l : List Sp) : ∀ (pre : List Sp) (a : Nat), May (pre ++ l) → goR (l.map oneR) a pre = (pre ++ l, 0, 0) := by
  induction l with
  | nil => intro pre a _; rw [List.append_nil]; rfl
  | cons s r ih =>
    intro pre a h
    have hs := h.2 s (by simp)
    have hlt := h.1.each s (by simp)
    have h' : May ((pre ++ [s]) ++ r) := by rw [List.append_assoc]; exact h
    rw [List.map_cons, goR, read_one s hs.1 hlt hs.2]
    show goR _ _ (putS pre s) = _
    rw [put_next h'.front, ih _ _ h', List.append_assoc]
    rfl
theorem oneR_no (s : Sp) : ∀ c, c ∈ oneR s → c ≠ 44 := by
  have key : ∀ n : Int, ∀ c, c ∈ itoa n → c ≠ 44 := fun n c hc e => by
    rcases itoa_bytes n c hc with h | h
    · rw [e] at h; exact absurd h (by decide)
    · rw [e] at h; exact absurd h (by decide)
  intro c hc
  unfold oneR at hc
  rcases List.mem_append.1 hc with hc | hc
  · exact key _ c hc
  · split at hc
    · cases hc
    · split at hc
      · rw [List.mem_singleton.1 hc]; decide
      · rcases List.mem_cons.1 hc with hc | hc
        · rw [hc]; decide
        · exact key _ c hc
theorem joinR_ne {x : Bytes} {r : List Bytes} (h : x ≠ []) : joinR (x :: r) ≠ [] := by
  cases r with
  | nil => exact h
  | cons y r =>
    show x ++ _ ≠ []
    intro e
    exact h (List.append_eq_nil_iff.1 e).1
theorem write_may {l : List Sp} (h : May l) : writeR l = joinR (l.map oneR) := by unfold writeR; rw [if_pos ((mayB_iff l).2 h)]
theorem parse_write {l : List Sp} (h : May l) : parseR (writeR l) = (l, 0, 0) := by
  rw [write_may h]
  cases l with
  | nil => rfl
  | cons s r =>
    have hs := h.2 s (List.mem_cons_self ..)
    obtain ⟨c, q, he, _⟩ := itoa_head s.1 hs.1
    have hne : oneR s ≠ [] := by unfold oneR; rw [he]; simp
    unfold parseR
    rw [if_neg (by rw [List.map_cons]; exact joinR_ne hne), join_split _ (by simp) fun x hx => by
      obtain ⟨t, ht, rfl⟩ := List.mem_map.1 hx
      exact oneR_no t]
    exact go_write (s :: r) [] 0 h
theorem write_inj {l m : List Sp} (hl : May l) (hm : May m) (h : writeR l = writeR m) : l = m := by
  have h1 := parse_write hl
  rw [h, parse_write hm] at h1
  injection h1 with h1
  exact h1.symm

/-! ### What any text is read as -/
theorem readR_le (p : Bytes) (k : Nat) (h : readR p = .wrong k) : k ≤ p.length := by
  unfold readR at h
  split at h
  · injection h with h; omega
  · split at h
    · split at h
      · cases h
      · split at h
        · injection h with h; omega
        · split at h
          · cases h
          · injection h with h; omega
    · split at h
      · cases h
      · injection h with h; omega
theorem take_may' {l : List Sp} (h : May l) (s : Sp) (put : Bool) : May (takeR l s put) := by
  unfold takeR
  split
  · exact put_may h s
  · exact take_may h s
theorem go_any (ps : List Bytes) : ∀ (a : Nat) (l : List Sp), May l → (∃ m, goR ps a l = (m, 0, 0) ∧ May m) ∨ ∃ k, goR ps a l = ([], k, 1) ∧ k ≤ a + (joinR ps).length := by
  induction ps with
  | nil => exact fun a l h => .inl ⟨l, rfl, h⟩
  | cons p r ih =>
    intro a l h
    have hlen : p.length ≤ (joinR (p :: r)).length ∧ (r ≠ [] → (joinR (p :: r)).length = p.length + 1 + (joinR r).length) := by
      cases r with
      | nil => exact ⟨Nat.le_refl _, fun e => absurd rfl e⟩
      | cons y r =>
        show p.length ≤ (p ++ 44 :: joinR (y :: r)).length ∧ (_ → (p ++ 44 :: joinR (y :: r)).length = _)
        simp only [List.length_append, List.length_cons]
        omega
    rw [goR]
    cases hr : readR p with
    | wrong k => exact .inr ⟨a + k, rfl, by have := readR_le p k hr; omega⟩
    | ok s put =>
      simp only
      cases r with
      | nil => exact .inl ⟨_, rfl, take_may' h s put⟩
      | cons y r =>
        rcases ih (a + p.length + 1) (takeR l s put) (take_may' h s put) with h1 | ⟨k, h1, h2⟩
        · exact .inl h1
        · refine .inr ⟨k, h1, ?_⟩
          rw [hlen.2 (by simp)]
          omega
theorem parse_any (s : Bytes) : (∃ m, parseR s = (m, 0, 0) ∧ May m) ∨ ∃ k, parseR s = ([], k, 1) ∧ k ≤ s.length := by
  unfold parseR
  split
  · exact .inl ⟨[], rfl, may_nil⟩
  · have := go_any (splitR s) 0 [] may_nil
    rw [split_join, Nat.zero_add] at this
    exact this

/-! ### How many -/
theorem canon_count {l : List Sp} (h : Canon l) {lo hi : Int} (hlo : ∀ t, t ∈ l → lo ≤ t.1) (hhi : ∀ t, t ∈ l → t.2 ≤ hi) (hle : lo ≤ hi + 1) : 2 * (l.length : Int) ≤ hi + 1 - lo := by
  induction l generalizing lo with
  | nil => simp only [List.length_nil]; omega
  | cons s r ih =>
    have hs := h.head
    have h1 := hlo s (List.mem_cons_self ..)
    have h2 := hhi s (List.mem_cons_self ..)
    have := ih h.tail (lo := s.2 + 1) (fun t ht => by have := h.above t ht; omega) (fun t ht => hhi t (List.mem_cons_of_mem _ ht)) (by omega)
    simp only [List.length_cons]
    omega
theorem May.count {l : List Sp} (h : May l) : l.length ≤ 500000 := by
  have := canon_count h.1 (lo := 1) (hi := 1000000) (fun t ht => (h.2 t ht).1) (fun t ht => (h.2 t ht).2) (by omega)
  omega
theorem itoa_len (n : Int) (h1 : 0 ≤ n) (h2 : n ≤ 999999) : (itoa n).length ≤ 6 := by
  obtain ⟨u, rfl⟩ : ∃ u : Nat, n = u := ⟨n.toNat, by omega⟩
  rw [itoa_nat]
  exact dec_len 5 u (by have : (10 : Nat) ^ (5 + 1) = 1000000 := by decide
                        omega)
theorem oneR_len (s : Sp) (h1 : 1 ≤ s.1) (h2 : s.1 < s.2) (h3 : s.2 ≤ 1000000) : (oneR s).length ≤ 13 := by
  have e1 := itoa_len s.1 (by omega) (by omega)
  have e2 := itoa_len (s.2 - 1) (by omega) (by omega)
  unfold oneR
  rw [List.length_append]
  split
  · simp; omega
  · split
    · simp; omega
    · simp; omega
theorem joinR_len (l : List Bytes) (k : Nat) (h : ∀ x, x ∈ l → x.length ≤ k) : (joinR l).length ≤ l.length * (k + 1) := by
  induction l with
  | nil => exact Nat.zero_le _
  | cons x r ih =>
    have h1 := h x (List.mem_cons_self ..)
    cases r with
    | nil => show x.length ≤ _; simp; omega
    | cons y r =>
      have h2 := ih fun z hz => h z (List.mem_cons_of_mem _ hz)
      show (x ++ 44 :: joinR (y :: r)).length ≤ _
      simp only [List.length_append, List.length_cons, Nat.add_mul, Nat.one_mul] at h2 ⊢
      omega
theorem write_len {l : List Sp} (h : May l) : (writeR l).length ≤ l.length * 14 := by
  rw [write_may h]
  have := joinR_len (l.map oneR) 13 fun x hx => by
    obtain ⟨t, ht, rfl⟩ := List.mem_map.1 hx
    exact oneR_len t (h.2 t ht).1 (h.1.each t ht) (h.2 t ht).2
  rwa [List.length_map] at this
end Go.Proofs.Rng
