/-
  The library's words for cutting and splitting a text, and the chapter's; an error at once in the program's own spelling.
-/
import Derived.Test.YtloecpgfohhmlaaDoorPri
import Derived.Lib.Split
import Derived.Lib.SlicesS
namespace Go.Proofs.YtloecpgfohhmlaaDoor
open Go.RowKit Go.Proofs.Prn Go.Lib

theorem occ_one (s : Bytes) (c : UInt8) (j : Nat) : occAt s [c] j = true ↔ s[j]? = some c := by
  unfold occAt
  have e : s[j]? = (s.drop j).head? := by rw [List.head?_drop]
  rw [e]
  cases hd : s.drop j with
  | nil => exact ⟨fun h => (by cases h), fun h => (by cases h)⟩
  | cons a r =>
    show (c == a && true) = true ↔ some a = some c
    constructor
    · intro h
      have : c = a := by simpa using h
      rw [this]
    · intro h
      cases h
      simp
theorem index_one_hit (t r : Bytes) (c : UInt8) (h : ∀ x ∈ t, x ≠ c) : index (t ++ c :: r) [c] = t.length := by
  refine index_first (by simp) ((occ_one _ c _).2 (by simp)) fun j hj => ?_
  cases hb : occAt (t ++ c :: r) [c] j with
  | false => rfl
  | true =>
    have := (occ_one _ c _).1 hb
    rw [List.getElem?_append_left hj, List.getElem?_eq_getElem hj] at this
    exact absurd (Option.some.inj this) (h _ (List.getElem_mem hj))
theorem index_one_miss (s : Bytes) (c : UInt8) (h : ∀ x ∈ s, x ≠ c) : index s [c] = -1 := by
  refine index_none fun j _ => ?_
  cases hb : occAt s [c] j with
  | false => rfl
  | true =>
    have := (occ_one _ c _).1 hb
    obtain ⟨hj, e⟩ := List.getElem?_eq_some_iff.1 this
    exact absurd e (h _ (List.getElem_mem hj))
theorem cut_hit (t r : Bytes) (c : UInt8) (h : ∀ x ∈ t, x ≠ c) : Lib.cut (t ++ c :: r) [c] = (t, r, true) := by
  unfold Lib.cut
  rw [index_one_hit t r c h, if_pos (by omega), Int.toNat_natCast]
  have e : (t ++ c :: r).drop (t.length + [c].length) = r := by
    rw [List.drop_append, List.drop_eq_nil_of_le (by simp)]
    simp
  rw [e, List.take_left]
theorem cut_miss (s : Bytes) (c : UInt8) (h : ∀ x ∈ s, x ≠ c) : Lib.cut s [c] = (s, [], false) := by
  unfold Lib.cut
  rw [index_one_miss s c h, if_neg (by decide)]
theorem byte_or (c : UInt8) (s : Bytes) : (∃ t r, s = t ++ c :: r ∧ ∀ x ∈ t, x ≠ c) ∨ ∀ x ∈ s, x ≠ c := by
  induction s with
  | nil => right; intro x hx; cases hx
  | cons a r ih =>
    by_cases hc : a = c
    · subst hc; exact .inl ⟨[], r, rfl, fun x hx => by cases hx⟩
    · rcases ih with ⟨t, r', rfl, h⟩ | h
      · refine .inl ⟨a :: t, r', rfl, fun d hd => ?_⟩
        rcases List.mem_cons.1 hd with rfl | hd
        · exact hc
        · exact h d hd
      · refine .inr fun d hd => ?_
        rcases List.mem_cons.1 hd with rfl | hd
        · exact hc
        · exact h d hd
theorem splitK_miss (sep : Bytes) (save k : Nat) (s : Bytes) (h : index s sep = -1) : splitK sep save k s = [s] := by
  cases k with
  | zero => rfl
  | succ k => unfold splitK; rw [if_pos (beq_iff_eq.2 h)]
theorem split_fields : ∀ (n : Nat) (s : Bytes), s.length ≤ n → splitK [32] 0 (Lib.count s [32]) s = fieldsP s := by
  intro n
  induction n with
  | zero =>
    intro s hs
    obtain rfl := List.eq_nil_of_length_eq_zero (by omega : s.length = 0)
    rw [splitK_miss _ _ _ _ (index_one_miss [] 32 fun x hx => by cases hx)]; rfl
  | succ n ih =>
    intro s hs
    rcases byte_or 32 s with ⟨t, r, rfl, h⟩ | h
    · have hi := index_one_hit t r 32 h
      have ed : (t ++ 32 :: r).drop (t.length + [(32 : UInt8)].length) = r := by
        rw [List.drop_append, List.drop_eq_nil_of_le (by simp)]
        simp
      rw [count_hit (by simp) hi, ed, Nat.add_comm, splitK, hi, if_neg (by simp), Int.toNat_natCast, ed, fields_hit t r h, ih r (by simp at hs; omega)]
      simp
    · rw [splitK_miss _ _ _ _ (index_one_miss s 32 h), fields_miss s h]
theorem splitB_fields (s : ByteArray) : (splitB ⟨#[32]⟩ 0 (countB s ⟨#[32]⟩) s).map (·.data.toList) = fieldsP s.data.toList := by
  rw [splitB_data]
  exact split_fields _ _ (Nat.le_refl _)
theorem bs_eq_iff (l : Bytes) (s : ByteArray) : bs l = s ↔ l = s.data.toList := by
  constructor
  · rintro rfl; rfl
  · intro h; rw [h, bs_self]
theorem idx_kind (x : ByteArray) : idxOfS [bs wHead, bs wFlow, bs wFloat] x = kindOf x.data.toList := by
  unfold idxOfS kindOf
  simp only [idxFromS, bs_eq_iff, eq_comm (a := wHead), eq_comm (a := wFlow), eq_comm (a := wFloat)]
  rfl
theorem kind_ge (w : Bytes) : -1 ≤ kindOf w ∧ kindOf w ≤ 2 := by
  unfold kindOf
  split
  · omega
  · split
    · omega
    · split <;> omega
end Go.Proofs.YtloecpgfohhmlaaDoor
