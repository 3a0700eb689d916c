/-
  What gatefoldref29.Parse knows at each byte: the pages of the lines that are read; how a line's word and numbers tell; what a page more, a part more turn in memory.
-/
import Derived.Test.YtloecpgfohhmlaaDoorPvc
import Derived.Test.YtloecpgfohhmlaaDoorPns
namespace Go.Proofs.YtloecpgfohhmlaaDoor
open Go.RowKit Go.Proofs.Prn

/-! ### The text -/
structure Inv (l : Bytes) (ps : List Page) (last n frm k : Nat) : Prop where
  run : parseP l = resume (ps, last) n (l.drop frm)
  noLF : ∀ j, frm ≤ j → j < k → l[j]? ≠ some 10
  le : frm ≤ k
  len : k ≤ l.length
  fin : k = l.length → frm = k
  small : Small n ps
  nk : n ≤ k
theorem Inv.start (l : Bytes) : Inv l [] 0 0 0 0 := ⟨rfl, fun j _ h => by omega, Nat.le_refl _, Nat.zero_le _, fun _ => rfl, Small.nil _, Nat.le_refl _⟩
theorem Inv.next {l : Bytes} {ps : List Page} {last n frm k : Nat} (h : Inv l ps last n frm k) (hk : k + 1 < l.length) (hc : l[k]? ≠ some 10) : Inv l ps last n frm (k + 1) :=
  ⟨h.run, fun j h1 h2 => by
    rcases Nat.lt_or_ge j k with hj | hj
    · exact h.noLF j h1 hj
    · obtain rfl : j = k := by omega
      exact hc, by have := h.le; omega, by omega, fun e => by omega, h.small, by have := h.nk; omega⟩
theorem Inv.cut {l : Bytes} {ps : List Page} {last n frm k : Nat} (h : Inv l ps last n frm k) (hc : l[k]? = some 10) :
    l.drop frm = (l.drop frm).take (k - frm) ++ 10 :: l.drop (k + 1) ∧ ∀ c ∈ (l.drop frm).take (k - frm), c ≠ 10 := by
  have hle := h.le
  have hk : k < l.length := (List.getElem?_eq_some_iff.1 hc).1
  constructor
  · have e1 : (l.drop frm).drop (k - frm) = 10 :: l.drop (k + 1) := by
      rw [List.drop_drop, show frm + (k - frm) = k by omega, List.drop_eq_getElem_cons hk]
      rw [List.getElem?_eq_getElem hk] at hc
      injection hc with hc
      rw [hc]
    rw [← e1, List.take_append_drop]
  · intro c hcm e
    subst e
    obtain ⟨i, hi⟩ := List.mem_iff_getElem?.1 hcm
    rw [List.getElem?_take] at hi
    split at hi
    · rw [List.getElem?_drop] at hi
      exact h.noLF (frm + i) (by omega) (by omega) hi
    · cases hi
theorem Inv.endless {l : Bytes} {ps : List Page} {last n frm k : Nat} (h : Inv l ps last n frm k) (hk : k + 1 = l.length) (hc : l[k]? ≠ some 10) : parseP l = ([], n + 1, 1) := by
  rw [h.run]
  have hle := h.le
  refine resume_miss _ _ _ (fun c hcm e => ?_) (fun e => ?_)
  · subst e
    obtain ⟨i, hi⟩ := List.mem_iff_getElem?.1 hcm
    rw [List.getElem?_drop] at hi
    have hil : frm + i < l.length := (List.getElem?_eq_some_iff.1 hi).1
    rcases Nat.lt_or_ge (frm + i) k with hj | hj
    · exact h.noLF (frm + i) (by omega) hj hi
    · rw [show frm + i = k by omega] at hi
      exact hc hi
  · have := congrArg List.length e
    rw [List.length_drop, List.length_nil] at this
    omega
theorem Inv.wrong {l : Bytes} {ps : List Page} {last n frm k : Nat} (h : Inv l ps last n frm k) (hc : l[k]? = some 10) (ht : takeP (ps, last) (tellP ((l.drop frm).take (k - frm))) = none) : parseP l = ([], n + 1, 1) := by
  obtain ⟨h1, h2⟩ := h.cut hc
  rw [h.run, h1, resume_none h2 ht]
theorem Inv.taken {l : Bytes} {ps : List Page} {last n frm k : Nat} (h : Inv l ps last n frm k) (hc : l[k]? = some 10) {st : St} (ht : takeP (ps, last) (tellP ((l.drop frm).take (k - frm))) = some st) : Inv l st.1 st.2 (n + 1) (k + 1) (k + 1) := by
  obtain ⟨h1, h2⟩ := h.cut hc
  have hk : k < l.length := (List.getElem?_eq_some_iff.1 hc).1
  refine ⟨?_, fun j _ h => by omega, Nat.le_refl _, by omega, fun _ => rfl, h.small.take ht, by have := h.nk; omega⟩
  rw [h.run, h1, resume_some h2 ht]
theorem Inv.done {l : Bytes} {ps : List Page} {last n frm k : Nat} (h : Inv l ps last n frm k) (hk : k = l.length) : parseP l = (ps, 0, 0) := by
  rw [h.run, h.fin hk, hk, List.drop_length]
  exact resume_nil _ _
theorem mid_list (s : ByteArray) (a b : Nat) : (s.extract a b).data.toList = (s.data.toList.drop a).take (b - a) := by
  rw [ByteArray.data_extract, Array.toList_extract, List.extract_eq_take_drop]

/-! ### A line -/
theorem tell_fields {t : Bytes} {x : ByteArray} {ys : List ByteArray} (h : strs (x :: ys) = fieldsP t) :
    tellP t = if x.data.toList = wPage then pageOf (rowP (strs ys)) else if kindOf x.data.toList < 0 then .wrong else partOf (kindOf x.data.toList).toNat (rowP (strs ys)) := by
  unfold tellP
  rw [← h]
  rfl

theorem rowP_len : ∀ (l : List Bytes) (r : List Int), rowP l = some r → r.length = l.length
  | [], r, h => by simp only [rowP, Option.some.injEq] at h; subst h; rfl
  | f :: l, r, h => by
    rw [rowP] at h
    cases hn : numP f with
    | none => rw [hn] at h; cases h
    | some n =>
      rw [hn] at h
      cases hr : rowP l with
      | none => rw [hr] at h; cases h
      | some q =>
        rw [hr] at h
        simp only [Option.some.injEq] at h
        subst h
        have := rowP_len l q hr
        simp [this]
theorem num_form (ys : List ByteArray) (m : Nat) : (∃ l, rowP (strs ys) = some l ∧ l.length = m) ∨ ∀ l, rowP (strs ys) = some l → l.length ≠ m := by
  cases h : rowP (strs ys) with
  | none => exact .inr fun l hl => by cases hl
  | some l =>
    by_cases hm : l.length = m
    · exact .inl ⟨l, rfl, hm⟩
    · exact .inr fun l' hl' => by cases hl'; exact hm
theorem pageOf_no {o : Option (List Int)} (h : ∀ l, o = some l → l.length ≠ 2) : pageOf o = .wrong := by
  unfold pageOf
  split
  · exact absurd rfl (h _ rfl)
  · rfl
theorem partOf_no {o : Option (List Int)} {k : Nat} (h : ∀ l, o = some l → l.length ≠ 7) : partOf k o = .wrong := by
  unfold partOf
  split
  · exact absurd rfl (h _ rfl)
  · rfl
theorem numbers_no {ys : List ByteArray} {m : Nat} (h : ∀ l, rowP (strs ys) = some l → l.length ≠ m) (A : Option Addr) (c : Nat) (W : World) (hA : RowAt encS 1 W A ys) (hs : ∀ y ∈ ys, y.size ≤ 10000) (hl : ys.length ≤ 10000) :
    Calls Tryd.prog 28 #[.slice A ys.length c, .int .i64 m] W fun e w' => ∃ v, e = .returned (.tuple #[v, .bool false]) ∧ Below W.heap.size W w' := by
  refine (rnumbers_any A c m ys W hA (fun y hy => by have := hs y hy; omega) (by omega)).mono fun e w' hg => ?_
  obtain ⟨v, b, he, hb, h1, h2⟩ := hg
  cases ho : rowP (strs ys) with
  | none => rw [h1 ho] at he; exact ⟨v, he, hb⟩
  | some l =>
    have hq := (h2 l ho).1
    rw [decide_eq_false (h l ho)] at hq
    rw [hq] at he
    exact ⟨v, he, hb⟩
theorem numbers_ok {ys : List ByteArray} {l : List Int} {m : Nat} (h : rowP (strs ys) = some l) (hm : l.length = m) (A : Option Addr) (c : Nat) (W : World) (hA : RowAt encS 1 W A ys) (hs : ∀ y ∈ ys, y.size ≤ 10000) (hl : ys.length ≤ 10000) :
    Calls Tryd.prog 28 #[.slice A ys.length c, .int .i64 m] W fun e w' => ∃ B d, e = .returned (.tuple #[.slice B m d, .bool true]) ∧ RowAt encI 1 w' B l ∧ Below W.heap.size W w' := by
  refine (rnumbers_any A c m ys W hA (fun y hy => by have := hs y hy; omega) (by omega)).mono fun e w' hg => ?_
  obtain ⟨v, b, he, hb, h1, h2⟩ := hg
  obtain ⟨hq, ho⟩ := h2 l h
  rw [decide_eq_true hm] at hq
  obtain ⟨B, d, rfl, hB, _⟩ := RowAt.of_own encI_len ho
  rw [hm, hq] at he
  exact ⟨B, d, he, hB, hb⟩
theorem word_yes {x : ByteArray} {l : Bytes} (h : x.data.toList = l) : (x.toList == l) = true := by rw [ByteArray.toList_eq, h]; simp
theorem word_no {x : ByteArray} {l : Bytes} (h : x.data.toList ≠ l) : (x.toList == l) = false := by rw [ByteArray.toList_eq, beq_eq_false_iff_ne]; exact h

theorem take_low_none (ps : List Page) (last : Nat) (f : Frag) (k : Nat) (h : k < last) : takeP (ps, last) (.part f k) = none := by
  rcases List.eq_nil_or_concat ps with rfl | ⟨pre, p, rfl⟩
  · exact takeP_part_nil _ _ _
  · rw [List.concat_eq_append, takeP_part, if_pos h]

/-! ### The memory -/
def Rp (w : World) (base : Nat) (v : Sl) (ps : List Page) (last : Nat) : Prop :=
  ∃ rs : List Raw, w.ownsRow base 37 5 v.v ps.length (flatL encR rs) ∧ rs.length = ps.length ∧
    (ps = [] ∨ ∃ (B : Nat) (rpre : List Raw) (r : Raw) (pre : List Page) (p : Page), rs = rpre ++ [r] ∧ ps = pre ++ [p] ∧ base ≤ B ∧ B ≤ w.heap.size ∧ PgsA w base B rpre pre ∧ Cur w base B last r p)
theorem Rp.nil (w : World) (base : Nat) : Rp w base Sl.nil [] 0 := ⟨[], World.ownsRow_nil _ _ _ _, rfl, .inl rfl⟩
theorem Rp.below {w w' : World} {base last : Nat} {v : Sl} {ps : List Page} (h : Rp w base v ps last) (hb : Below w.heap.size w w') : Rp w' base v ps last := by
  obtain ⟨rs, hown, hl, hc⟩ := h
  refine ⟨rs, ob hown hb, hl, hc.imp id ?_⟩
  rintro ⟨B, rpre, r, pre, p, e1, e2, h1, h2, h3, h4⟩
  exact ⟨B, rpre, r, pre, p, e1, e2, h1, Nat.le_trans h2 hb.size, h3.kf (.below hb), h4.kf (.below hb)⟩
theorem Rp.pages {w : World} {base last : Nat} {v : Sl} {ps : List Page} (h : Rp w base v ps last) : v.n = ps.length ∧ PagesAt w v.A ps := by
  obtain ⟨rs, hown, hl, hc⟩ := h
  exact pages_of hown hl (Rd.all hl hc)
theorem Rp.n {w : World} {base last : Nat} {v : Sl} {ps : List Page} (h : Rp w base v ps last) : v.n = ps.length := h.pages.1
/-- A page more. -/
theorem Rp.page {w W w' : World} {base last : Nat} {v v' : Sl} {ps : List Page} {rs : List Raw} {a b : Int} (hl : rs.length = ps.length)
    (hc : ps = [] ∨ ∃ (B : Nat) (rpre : List Raw) (r : Raw) (pre : List Page) (p : Page), rs = rpre ++ [r] ∧ ps = pre ++ [p] ∧ base ≤ B ∧ B ≤ w.heap.size ∧ PgsA w base B rpre pre ∧ Cur w base B last r p)
    (hown : W.ownsRow base 37 5 v.v ps.length (flatL encR rs)) (hK : KF w W) (hbw : base ≤ w.heap.size)
    (hown' : w'.ownsRow base 37 5 v'.v (rs.length + 1) (flatL encR rs ++ encR ⟨a, b, Sl.nil, Sl.nil, Sl.nil⟩)) (hg : W.grownBy w' v.v.ownBlock) : Rp w' base v' (ps ++ [⟨a, b, [], [], []⟩]) 0 := by
  have hk : KF w w' := hK.grown hg fun k hk => by
    obtain ⟨cs, hcs⟩ := own_blk hown hk
    exact ⟨_, cs, hcs, by decide⟩
  have hall := Rd.all hl hc
  refine ⟨rs ++ [⟨a, b, Sl.nil, Sl.nil, Sl.nil⟩], ?_, by simp [hl], .inr ⟨w'.heap.size, rs, _, ps, _, rfl, rfl, Nat.le_trans hbw hk.size, Nat.le_refl _, (hall.kf hk).more hk.size, Cur.new _ _ _ _ _⟩⟩
  rw [flatL_append, flatL_one_, List.length_append, ← hl]
  exact hown'
end Go.Proofs.YtloecpgfohhmlaaDoor
