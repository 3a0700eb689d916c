/-
  What SheetsOnce leans on, in one structure; a row whose first slot is told anew.
-/
import Derived.Test.YthiplocjiamahaaSlh
namespace Go.Proofs.Ythiplocjiamahaa
open Go.RowKit Go.Proofs.Shs Go.Maps

structure OnceF (kd r c s sh : Int) (N K : Nat) (L : List Slot) : Prop where
  len : (L.length : Int) = (K : Int) * r * c * s
  lo : 1 ≤ L.length
  hi : L.length ≤ 1112
  k1 : 1 ≤ K
  k2 : K ≤ 600
  adj : ∀ i x y, L[i]? = some x → L[i + 1]? = some y → Ahead x y
  bd : ∀ x, x ∈ L → 1 ≤ x.sheet ∧ x.sheet ≤ (K : Int) ∧ 1 ≤ x.side ∧ x.side ≤ s ∧ 0 ≤ x.row ∧ x.row < r ∧ 0 ≤ x.col ∧ x.col < c ∧ -1 ≤ x.page ∧ x.page < (N : Int)
  at_ : ∀ x, x ∈ L → 0 ≤ x.page → atV ⟨kd, r, c, s, sh⟩ N x.page = (x, true)
  one : ∀ q, q < N → (L.filter (byPage · q)).length = 1
  some_ : ∀ t, t < K → 0 < (L.filter (bySheet · t)).length
  rev : cntPg L.reverse = N ∧ ReadOk ⟨kd, r, c, s, sh⟩ L.reverse
  less : 1 < L.length → ¬ ReadOk ⟨kd, r, c, s, sh⟩ L.tail
  twice : ∀ x, L[0]? = some x → 1 < L.length → ¬ ReadOk ⟨kd, r, c, s, sh⟩ (L.reverse.set 0 x)
  wf : ∀ x, x ∈ L → wfS x

theorem onceF (kd r c s sh : Int) (N : Nat) (h : mayP ⟨kd, r, c, s, sh⟩ = true) (h1 : 1 ≤ N) (h2 : N ≤ 600) : OnceF kd r c s sh N (cntN ⟨kd, r, c, s, sh⟩ N) (allP ⟨kd, r, c, s, sh⟩ N) := by
  have hb := cnt_bd ⟨kd, r, c, s, sh⟩ N h
  have hp := perP_pos ⟨kd, r, c, s, sh⟩ h
  have hc := cntN_int ⟨kd, r, c, s, sh⟩ N h (by omega) (by omega)
  have hl := len_all ⟨kd, r, c, s, sh⟩ N h (by omega) (by omega)
  have hcp := cnt_pos ⟨kd, r, c, s, sh⟩ N h (by omega) (by omega)
  simp only [Int.toNat_natCast] at hb
  have hk : cntN ⟨kd, r, c, s, sh⟩ N ≤ N := by
    obtain ⟨m, hm⟩ : ∃ m, cntN ⟨kd, r, c, s, sh⟩ N = m + 1 := ⟨cntN ⟨kd, r, c, s, sh⟩ N - 1, by omega⟩
    rw [hm, Nat.succ_mul] at hb
    have : m * 1 ≤ m * perP ⟨kd, r, c, s, sh⟩ := Nat.mul_le_mul_left m hp.1
    omega
  have hbd := fun x hx => slot_bd ⟨kd, r, c, s, sh⟩ N h (by omega) (by omega) x hx
  exact {
    len := by rw [hc]; exact len_int _ _ h (by omega) (by omega)
    lo := by omega
    hi := by omega
    k1 := by omega
    k2 := by omega
    adj := fun i x y hx hy => by
      have hpw := pw_all ⟨kd, r, c, s, sh⟩ N
      obtain ⟨hi', rfl⟩ := List.getElem?_eq_some_iff.1 hx
      obtain ⟨hj', rfl⟩ := List.getElem?_eq_some_iff.1 hy
      exact List.pairwise_iff_getElem.1 hpw i (i + 1) hi' hj' (by omega)
    bd := fun x hx => by
      have := hbd x hx
      rw [if_neg (by omega)] at this
      rw [hc]
      simpa using this
    at_ := fun x hx h0 => by
      obtain ⟨hq, e⟩ := at_only ⟨kd, r, c, s, sh⟩ N x.page h (by omega) (by omega) h0 x hx rfl
      unfold atV
      rw [if_pos ⟨h, by omega, by omega, h0, hq⟩, ← e]
    one := fun q hq => page_once _ _ h (by omega) (by omega) q (by omega)
    some_ := fun t ht => sheet_some _ _ h (by omega) (by omega) t (by omega)
    rev := by
      have := read_turned ⟨kd, r, c, s, sh⟩ N h (by omega) (by omega)
      exact ⟨by omega, this.2⟩
    less := fun g => read_less _ _ h (by omega) (by omega) g
    twice := fun x hx g => read_twice _ _ x hx g
    wf := fun x hx => by
      have := hbd x hx
      rw [if_neg (by omega)] at this
      have hbx := all_bd _ _ x hx
      refine ⟨wf_place x hbx, WalkArith.wf_i64 (by omega)⟩ }

theorem prod4 (K r c s : Int) (hK0 : 1 ≤ K) (hK : K ≤ 600) (hr0 : 1 ≤ r) (hr : r ≤ 16) (hc0 : 1 ≤ c) (hc : c ≤ 16) (hs0 : 1 ≤ s) (hs : s ≤ 2) : 0 ≤ K * r ∧ K * r ≤ 9600 ∧ 0 ≤ K * r * c ∧ K * r * c ≤ 153600 ∧ 0 ≤ K * r * c * s ∧ K * r * c * s ≤ 307200 := by
  have a1 : 0 ≤ K * r := Int.mul_nonneg (by omega) (by omega)
  have a2 : K * r ≤ 600 * 16 := Int.mul_le_mul hK hr (by omega) (by omega)
  have a3 : 0 ≤ K * r * c := Int.mul_nonneg a1 (by omega)
  have a4 : K * r * c ≤ 9600 * 16 := Int.mul_le_mul a2 hc (by omega) (by omega)
  have a5 : 0 ≤ K * r * c * s := Int.mul_nonneg a3 (by omega)
  have a6 : K * r * c * s ≤ 153600 * 2 := Int.mul_le_mul a4 hs (by omega) (by omega)
  omega

set_option maxHeartbeats 1000000 in
/-- A row whose first slot is told anew. -/
theorem row_first {w : World} {g : Nat} {t : TypeId} {cur : Array Value} {l : List Slot} {x0 x1 x2 x3 x4 : Int} (hb : Blk w g t cur) (h : RowAt encSl 5 w (some ⟨g, 0, none⟩) l) (hl : 0 < l.length) (hs : 5 ≤ cur.size) :
    RowAt encSl 5 (((((w.setCell ⟨g, 0, none⟩ (.int .i64 x0)).setCell ⟨g, 1, none⟩ (.int .i64 x1)).setCell ⟨g, 2, none⟩ (.int .i64 x2)).setCell ⟨g, 3, none⟩ (.int .i64 x3)).setCell ⟨g, 4, none⟩ (.int .i64 x4)) (some ⟨g, 0, none⟩) (l.set 0 ⟨x0, x1, x2, x3, x4⟩) := by
  have hB := ((((hb.set_ 0 (.int .i64 x0)).set_ 1 (.int .i64 x1)).set_ 2 (.int .i64 x2)).set_ 3 (.int .i64 x3)).set_ 4 (.int .i64 x4)
  intro i x hx
  refine ⟨g, 0, rfl, hB.lt, fun c v hv => ?_⟩
  have hcell := hB.cell (0 + i * 5 + c)
  rw [hcell]
  have hc5 : c < 5 := by have := (List.getElem?_eq_some_iff.1 hv).1; simpa [encSl] using this
  by_cases hi : i = 0
  · subst hi
    rw [List.getElem?_set_self hl] at hx
    cases hx
    have h5 : c = 0 ∨ c = 1 ∨ c = 2 ∨ c = 3 ∨ c = 4 := by omega
    simp only [Array.getElem?_setIfInBounds, Array.size_setIfInBounds, Nat.zero_mul, Nat.zero_add]
    rcases h5 with rfl | rfl | rfl | rfl | rfl
    · rw [if_neg (by decide), if_neg (by decide), if_neg (by decide), if_neg (by decide), if_pos rfl, if_pos (by omega)]; exact hv
    · rw [if_neg (by decide), if_neg (by decide), if_neg (by decide), if_pos rfl, if_pos (by omega)]; exact hv
    · rw [if_neg (by decide), if_neg (by decide), if_pos rfl, if_pos (by omega)]; exact hv
    · rw [if_neg (by decide), if_pos rfl, if_pos (by omega)]; exact hv
    · rw [if_pos rfl, if_pos (by omega)]; exact hv
  · rw [List.getElem?_set_ne (Ne.symm hi)] at hx
    obtain ⟨b, off, e, _, h1⟩ := h i x hx
    cases e
    have := h1 c v hv
    rw [hb.cell] at this
    rw [← this]
    simp only [Array.getElem?_setIfInBounds]
    rw [if_neg (by omega), if_neg (by omega), if_neg (by omega), if_neg (by omega), if_neg (by omega)]
theorem row_tail {w : World} {b off : Nat} {l : List Slot} (h : RowAt encSl 5 w (some ⟨b, off, none⟩) l) : RowAt encSl 5 w (some ⟨b, off + 5, none⟩) l.tail := by
  intro i x hx
  rw [List.getElem?_tail] at hx
  obtain ⟨b', off', e, hb, h1⟩ := h (i + 1) x hx
  cases e
  refine ⟨b, off + 5, rfl, hb, fun c v hv => ?_⟩
  have := h1 c v hv
  rw [show off + (i + 1) * 5 + c = off + 5 + i * 5 + c by omega] at this
  exact this
/-- A row of one's own, known whole. -/
theorem own_blk {w : World} {base : Nat} {t : TypeId} {v : Value} {l : List Slot} (h : w.ownsRow base t 5 v l.length (flatL encSl l)) (hl : 0 < l.length) :
    ∃ g cap cur, v = .slice (some ⟨g, 0, none⟩) l.length cap ∧ base ≤ g ∧ Blk w g t cur ∧ l.length ≤ cap ∧ cap ≤ maxLen ∧ 5 ≤ cur.size ∧ RowAt encSl 5 w (some ⟨g, 0, none⟩) l := by
  have hr := RowAt.of_own encSl_len h
  rcases h.2 with ⟨rfl, h0⟩ | ⟨g, cap, cur, rfl, hg, hh, hn, hm, hs, hx⟩
  · omega
  · obtain ⟨A, c, e, hA, _⟩ := hr
    cases e
    refine ⟨g, cap, cur, rfl, hg, hh, hn, hm, ?_, hA⟩
    omega
end Go.Proofs.Ythiplocjiamahaa
