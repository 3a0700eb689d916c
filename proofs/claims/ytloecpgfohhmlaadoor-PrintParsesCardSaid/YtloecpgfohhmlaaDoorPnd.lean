/-
  print.of, at every line: what the line tells; below the heap's size nothing turns.
-/
import Derived.Test.YtloecpgfohhmlaaDoorPnb
import Derived.Test.YtloecpgfohhmlaaDoorPnc
import Derived.Test.YtloecpgfohhmlaaDoorPli
namespace Go.Proofs.YtloecpgfohhmlaaDoor
open Go.RowKit Go.Proofs.Prn

/-- What a line tells, as the program has it. -/
def tellV : Tell → Value
  | .page a b => .iface 37 (.agg #[.int .i64 a, .int .i64 b, .slice none 0 0, .slice none 0 0, .slice none 0 0])
  | .part f k => .iface 85 (.agg #[.int .i64 f.node, .int .i64 f.atom, .int .i64 f.frm, .int .i64 f.x, .int .i64 f.y, .int .i64 f.w, .int .i64 f.h, .int .i64 k])
  | .wrong => .iface 90 (.agg #[])
theorem pageOf_wrong {o : Option (List Int)} (h : ∀ l, o = some l → l.length ≠ 2) : pageOf o = .wrong := by
  unfold pageOf
  split
  · exact absurd rfl (h _ rfl)
  · rfl
theorem partOf_wrong {o : Option (List Int)} {k : Nat} (h : ∀ l, o = some l → l.length ≠ 7) : partOf k o = .wrong := by
  unfold partOf
  split
  · exact absurd rfl (h _ rfl)
  · rfl
theorem rowGives_case {many : Nat} {o : Option (List Int)} {w w' : World} {e : Ending} (h : RowGives many o w e w') :
    (∃ v, e = .returned (.tuple #[v, .bool false]) ∧ Below w.heap.size w w' ∧ Hid (∀ l, o = some l → l.length ≠ many)) ∨
    ∃ A c l, o = some l ∧ l.length = many ∧ e = .returned (.tuple #[.slice A many c, .bool true]) ∧ RowAt encI 1 w' A l ∧ many ≤ c ∧ Below w.heap.size w w' := by
  obtain ⟨v, b, rfl, hb, h1, h2⟩ := h
  cases o with
  | none =>
    obtain rfl := h1 rfl
    exact .inl ⟨v, rfl, hb, by show ∀ _, _; intro l hl; cases hl⟩
  | some l =>
    obtain ⟨rfl, hown⟩ := h2 l rfl
    by_cases hl : l.length = many
    · obtain ⟨A, c, rfl, hA, hc, _⟩ := RowAt.of_own encI_len hown
      exact .inr ⟨A, c, l, rfl, hl, by rw [hl]; simp, hA, by omega, hb⟩
    · exact .inl ⟨v, by simp [hl], hb, by show ∀ _, _; intro l' hl'; cases hl'; exact hl⟩
theorem flat_str (xs : List ByteArray) : flatL encS xs = xs.map Value.string := by
  induction xs with
  | nil => rfl
  | cons x r ih => rw [flatL, ih]; rfl
theorem RowAt.cell1 {α : Type} {enc : α → List Value} {w : World} {A : Option Addr} {xs : List α} {i : Nat} {x : α} {v : Value} (h : RowAt enc 1 w A xs) (hx : xs[i]? = some x) (hv : enc x = [v]) :
    ∃ b off, A = some ⟨b, off, none⟩ ∧ w.cell? ⟨b, off + i, none⟩ = some v := by
  obtain ⟨b, off, e, _, hc⟩ := h i x hx
  exact ⟨b, off, e, by simpa using hc 0 v (by rw [hv]; rfl)⟩
theorem RowAt.shift {w : World} {b off : Nat} {x : ByteArray} {xs : List ByteArray} (h : RowAt encS 1 w (some ⟨b, off, none⟩) (x :: xs)) : RowAt encS 1 w (some ⟨b, off + 1, none⟩) xs := fun i y hy => by
  obtain ⟨b', off', e, hb, hc⟩ := h (i + 1) y (by simpa using hy)
  cases e
  refine ⟨b, off + 1, rfl, hb, fun c v hv => ?_⟩
  have := hc c v hv
  rw [show off + 1 + i * 1 + c = off + (i + 1) * 1 + c by omega]; exact this
theorem bytes_sum (s : Bytes) : ∀ f ∈ fieldsP s, f.length ≤ s.length := by
  induction s with
  | nil => intro f hf; simp [fieldsP] at hf; simp [hf]
  | cons c r ih =>
    intro f hf
    unfold fieldsP at hf
    split at hf
    · rcases List.mem_cons.1 hf with rfl | hf
      · simp
      · have := ih f hf; simp; omega
    · split at hf
      · simp at hf; simp [hf]
      · rename_i g gs e
        rcases List.mem_cons.1 hf with rfl | hf
        · have := ih g (by rw [e]; simp); simp; omega
        · have := ih f (by rw [e]; simp [hf]); simp; omega
theorem fields_count (s : Bytes) : (fieldsP s).length ≤ s.length + 1 := by
  induction s with
  | nil => simp [fieldsP]
  | cons c r ih =>
    unfold fieldsP
    split
    · simp; omega
    · split
      · simp
      · rename_i g gs e
        rw [e] at ih
        simp at ih ⊢; omega

/-- The fields of a line as strings. -/
theorem split_at (s : ByteArray) (m : Int) (w : World) (hs : s.size ≤ 100000) (hm : w.cell? ⟨0, 0, none⟩ = some (.int .i64 m)) :
    ∃ (x : ByteArray) (xs : List ByteArray), strs (x :: xs) = fieldsP s.data.toList ∧ xs.length ≤ 100000 ∧ (∀ y ∈ x :: xs, y.size ≤ 100000) ∧
      Calls Tryd.prog 36 #[.string s, .string ⟨#[32]⟩] w fun e w' => e = .returned (.slice (some ⟨w.heap.size, 0, none⟩) (xs.length + 1) (xs.length + 1)) ∧ RowAt encS 1 w' (some ⟨w.heap.size, 0, none⟩) (x :: xs) ∧ Below w.heap.size w w' := by
  have hf := splitB_fields s
  have hl := Lib.splitB_all ⟨#[32]⟩ (by decide) 0 _ s rfl
  have c := Tryd.strings_Split s ⟨#[32]⟩ m w (by omega) hm (by decide)
  generalize Lib.splitB ⟨#[32]⟩ 0 (Lib.countB s ⟨#[32]⟩) s = zs at hf hl c
  rw [← hl] at c
  have h1 := fields_count s.data.toList
  have h2 := bytes_sum s.data.toList
  rw [size_list] at h1 h2
  rw [← hf] at h1 h2
  cases zs with
  | nil => exact absurd hf.symm (fields_ne _)
  | cons x xs =>
    refine ⟨x, xs, hf, by simp at h1; omega, fun y hy => ?_, c.mono fun e w' ⟨he, hw⟩ => ⟨he, ?_, ?_⟩⟩
    · have := h2 y.data.toList (List.mem_map.2 ⟨y, hy, rfl⟩)
      rw [size_list] at this
      omega
    · rw [hw, ← flat_str]
      exact RowAt.new encS_len w _ _
    · rw [hw]
      exact bl (Below.refl _ _) _
end Go.Proofs.YtloecpgfohhmlaaDoor
