/-
  gatefoldref29.fields: what stands between blanks.
-/
import Derived.Test.YtloecpgfohhmlaaDoorPvb
import Derived.Test.YtloecpgfohhmlaaDoorPtd
import Derived.Test.YtloecpgfohhmlaaDoorQtl
namespace Go.Proofs.YtloecpgfohhmlaaDoor
open Go.RowKit Go.Proofs.Prn

theorem fields_snoc_sp (l : Bytes) : fieldsP (l ++ [32]) = fieldsP l ++ [[]] := by
  induction l with
  | nil => rfl
  | cons c r ih =>
    rw [List.cons_append, fieldsP, fieldsP, ih]
    by_cases hc : c = 32
    · rw [if_pos hc, if_pos hc]; rfl
    · rw [if_neg hc, if_neg hc]
      cases h : fieldsP r with
      | nil => exact absurd h (fields_ne r)
      | cons f fs => rfl
theorem fields_snoc_c (l : Bytes) (d : UInt8) (hd : d ≠ 32) : ∃ pre f, fieldsP l = pre ++ [f] ∧ fieldsP (l ++ [d]) = pre ++ [f ++ [d]] := by
  induction l with
  | nil => exact ⟨[], [], rfl, by simp [fieldsP, hd]⟩
  | cons c r ih =>
    obtain ⟨pre, f, h1, h2⟩ := ih
    by_cases hc : c = 32
    · refine ⟨[] :: pre, f, ?_, ?_⟩
      · rw [fieldsP, if_pos hc, h1]; rfl
      · rw [List.cons_append, fieldsP, if_pos hc, h2]; rfl
    · cases pre with
      | nil =>
        refine ⟨[], c :: f, ?_, ?_⟩
        · rw [fieldsP, if_neg hc, h1]; rfl
        · rw [List.cons_append, fieldsP, if_neg hc, h2]; rfl
      | cons g pre =>
        refine ⟨(c :: g) :: pre, f, ?_, ?_⟩
        · rw [fieldsP, if_neg hc, h1]; rfl
        · rw [List.cons_append, fieldsP, if_neg hc, h2]; rfl
theorem one_list (s : ByteArray) (k : Nat) (h : k < s.size) : (s.extract k (k + 1)).data.toList = [s[k]] := by
  rw [ByteArray.data_extract, Array.toList_extract, List.extract_eq_take_drop]
  have h' : k < s.data.toList.length := by rw [size_list]; exact h
  rw [List.drop_eq_getElem_cons h', get_list s k h]
  simp
theorem Tryd.underS : Tryd.prog.underlying 68 = some (.slice 9) := Tryd.underlying68

/-- What fields gives. -/
def FieldsGives (l : Bytes) (w : World) (e : Ending) (w' : World) : Prop :=
  ∃ (g c : Nat) (xs : List ByteArray), e = .returned (.slice (some ⟨g, 0, none⟩) xs.length c) ∧ strs xs = fieldsP l ∧ RowAt encS 1 w' (some ⟨g, 0, none⟩) xs ∧ xs.length ≤ c ∧ Below w.heap.size w w'
theorem strs_parts {xs : List ByteArray} {pre : List Bytes} {f : Bytes} (h : strs xs = pre ++ [f]) : ∃ ys x, xs = ys ++ [x] ∧ strs ys = pre ∧ x.data.toList = f := by
  rcases List.eq_nil_or_concat xs with rfl | ⟨ys, x, rfl⟩
  · simp [strs] at h
  · rw [List.concat_eq_append] at *
    simp only [strs, List.map_append, List.map_cons, List.map_nil] at h
    have h1 := List.append_inj' h rfl
    exact ⟨ys, x, rfl, h1.1, by simpa using h1.2⟩

set_option maxHeartbeats 8000000 in
set_option maxRecDepth 100000 in
theorem fields_any (s : ByteArray) (w : World) (hs : s.size ≤ 10000) : Calls Tryd.prog 27 #[.string s] w (FieldsGives s.data.toList w) := by
  obtain ⟨i0, hi, hz0, hz1, hz2⟩ := info_parts Tryd.infoStr
  go_enter Tryd.func27, Tryd.ntmps27
  go_wp2_with fail
  go_loopw [3, 4] (fun o i wr => ∃ (k g c : Nat) (xs : List ByteArray), i = .int .i64 k ∧ o = .slice (some ⟨g, 0, none⟩) xs.length c ∧ k ≤ s.size ∧ xs.length ≤ k + 1 ∧ Hid (strs xs = fieldsP (s.data.toList.take k)) ∧ Hid (wr.ownsRow w.heap.size 9 1 (.slice (some ⟨g, 0, none⟩) xs.length c) xs.length (xs.map Value.string)) ∧ Hid (Below w.heap.size w wr)) (fun _ i _ => s.size - (intOf i).toNat)
  case atStart => exact ⟨0, w.heap.size, 1, [⟨#[]⟩], rfl, rfl, Nat.zero_le _, by simp, by show _ = _; rfl, by show World.ownsRow _ _ _ _ _ _ _; exact World.ownsRow_lit (base := w.heap.size) (e := 9) (size := 1) w #[.string ⟨#[]⟩] 1 (Nat.le_refl _) (by unfold maxLen; omega) rfl, bl (Below.refl _ _) _⟩
  case round =>
    obtain ⟨k, g, c, xs, rfl, rfl, hk, hxl, HF, HO, HB⟩ := hrel
    by_cases hlt : k < s.size
    · have hlt' : (k : Int) < (s.size : Int) := by omega
      have ik0 : (0 : Int) ≤ (k : Int) := by omega
      have hkl : k < s.data.toList.length := by rw [size_list]; exact hlt
      have hgl : s.data.toList[k] = s[k] := get_list s k hlt
      have et : s.data.toList.take (k + 1) = s.data.toList.take k ++ [s[k]] := by rw [take_snoc' _ k hkl, hgl]
      by_cases hd : s[k]'hlt = 32
      · have hd' : (((s[k]'hlt).toNat : Int) == 32) = true := by rw [hd]; rfl
        have HF2 : Hid (strs (xs ++ [(⟨#[]⟩ : ByteArray)]) = fieldsP (s.data.toList.take (k + 1))) := by
          show _ = _
          rw [et, hd, fields_snoc_sp, ← HF.out]
          simp [strs]
        have HOA := Lib.hid (HO.out.alloc (.cells #[.string ⟨#[]⟩] 9))
        have hsz := HB.out.size
        clear et hgl
        go_wp2_with (at_builtin; refine wpList_append_own _ rfl _ _ 68 rfl w.heap.size 9 i0 (.string ByteArray.empty) 1 16 Tryd.underS hi hz0 hz1 hz2 rfl (by decide) _ _ _ rfl HOA.out ⟨wr.heap.size, 0, none⟩ 1 1 [.string ⟨#[]⟩] rfl ?c0 ?c1 ?c2 ?c3 ?c4 ?c5 ?_)
        case c0 => rfl
        case c1 => exact cells_new _ _ _
        case c2 => intro u hu; simp at hu; rcases hu with rfl; rfl
        case c3 => unfold maxLen; omega
        case c4 => omega
        case c5 => simp; omega
        intro v5 w5 hown5 hgrow5 _
        have O6 : w5.ownsRow w.heap.size 9 1 v5 (xs.length + 1) ((xs ++ [(⟨#[]⟩ : ByteArray)]).map Value.string) := by
          rw [List.map_append]; exact hown5
        have B6 : Hid (Below w.heap.size w w5) := ((HB.out.alloc hsz _).grown hgrow5 (by simp; omega) (fun j hj => (HO.out.lt j hj).1))
        obtain ⟨g5, c5, rfl, _⟩ := O6.form (by omega)
        have O7 : Hid (w5.ownsRow w.heap.size 9 1 (.slice (some ⟨g5, 0, none⟩) (xs ++ [(⟨#[]⟩ : ByteArray)]).length c5) (xs ++ [(⟨#[]⟩ : ByteArray)]).length ((xs ++ [(⟨#[]⟩ : ByteArray)]).map Value.string)) := by
          show World.ownsRow _ _ _ _ _ _ _
          rw [List.length_append]; exact O6
        clear hown5 hgrow5 HO HOA O6 HF
        go_wp2_with fail
        go_roundw
        case rel => exact ⟨k + 1, g5, c5, xs ++ [(⟨#[]⟩ : ByteArray)], by go_num, by rw [List.length_append]; rfl, by omega, by rw [List.length_append]; simp; omega, HF2, O7, B6⟩
        case measure => simp [intOf]; omega
      · obtain ⟨pre, f, e1, e2⟩ := fields_snoc_c (s.data.toList.take k) (s[k]'hlt) hd
        obtain ⟨ys, x, rfl, hy, hx⟩ := strs_parts (HF.out.trans e1)
        have hd' : (((s[k]'hlt).toNat : Int) == 32) = false := by
          rw [beq_eq_false_iff_ne]
          intro e
          exact hd (UInt8.toNat_inj.1 (by show _ = 32; omega))
        have hxs : x.size ≤ 10000 := by
          have h1 := bytes_sum (s.data.toList.take k) f (by rw [e1]; simp)
          rw [← hx, size_list, List.length_take, size_list] at h1
          omega
        have hes : (s.extract k (k + 1)).size ≤ 10000 := by rw [ByteArray.size_extract]; omega
        have HF2 : Hid (strs (ys ++ [x ++ s.extract k (k + 1)]) = fieldsP (s.data.toList.take (k + 1))) := by
          show _ = _
          rw [et, e2, ← hy, ← hx]
          simp only [strs, List.map_append, List.map_cons, List.map_nil, ByteArray.data_append, Array.toList_append]
          rw [one_list s k hlt]
        have hadd : ∀ W, (binOp .add 9 (.string x) (.string (s.extract k (k + 1)))).run Tryd.prog W = .ok (.string (x ++ s.extract k (k + 1))) W := fun W => join_add x _ (by omega) W
        have hop : ∀ W, (Op.stringOp .add x (s.extract k (k + 1))).run Tryd.prog W = .ok (.string (x ++ s.extract k (k + 1))) W := fun W => run_string_add_sum W x _ (by omega)
        have hcell : wr.cell? ⟨g, ys.length, none⟩ = some (.string x) := by
          obtain ⟨A, d, h1, h2, _⟩ := RowAt.of_own (w := wr) (xs := ys ++ [x]) encS_len (by rw [flat_str]; exact HO.out)
          injection h1 with h1
          obtain ⟨b', o', h3, h4⟩ := RowAt.cell1 (i := ys.length) (x := x) (v := .string x) h2 (by simp) rfl
          rw [← h1] at h3
          injection h3 with h3
          injection h3 with h3 h5
          subst h3 h5
          simpa using h4
        obtain ⟨cur, hblk⟩ := own_blk HO.out (g := g) rfl
        have hfree := hblk.frozen ys.length
        have c0 := From.cell hcell
        have hlen : (ys ++ [x]).length = ys.length + 1 := by simp
        have it : ((k : Int) + 1).toNat = k + 1 := by omega
        rw [hlen]
        clear et hgl e1 e2 hy hx
        go_wp2_with fail
        refine wp_region_from_tail 17 (by kernel_rfl) (by kernel_rfl) ?_
        simp only [List.take_succ_cons, List.take_zero, List.drop_succ_cons, List.drop_zero]
        repeat (go_big_quiet_step (fail))
        refine wpQuiet_nil ?_
        intro _ hw'
        obtain ⟨p, rfl⟩ := hw'
        have HBp := Lib.hid (bt HB.out p.below)
        have HOp := Lib.hid (ob HO.out p.below)
        have hcp := From.cell hcell p
        have hfp := (hblk.keep p.below).frozen ys.length
        have hwg := (HO.out.lt g rfl).1
        clear HB HO hcell hfree c0 hblk
        generalize p.W = W2 at *
        go_wp2_with fail
        have HO2 : Hid ((W2.setCell ⟨g, ys.length, none⟩ (.string (x ++ s.extract k (k + 1)))).ownsRow w.heap.size 9 1 (.slice (some ⟨g, 0, none⟩) (ys ++ [x ++ s.extract k (k + 1)]).length c) (ys ++ [x ++ s.extract k (k + 1)]).length ((ys ++ [x ++ s.extract k (k + 1)]).map Value.string)) := by
          have := (World.ownsRow.stored HOp.out ys.length (.string (x ++ s.extract k (k + 1)))).1
          show World.ownsRow _ _ _ _ _ _ _
          simpa using this
        have HB2 : Hid (Below w.heap.size w (W2.setCell ⟨g, ys.length, none⟩ (.string (x ++ s.extract k (k + 1))))) := bset HBp.out hwg _
        go_roundw
        case rel => exact ⟨k + 1, g, c, ys ++ [x ++ s.extract k (k + 1)], by go_num, by simp, by omega, by simp; simp at hxl; omega, HF2, HO2, HB2⟩
        case measure => simp [intOf]; omega
    · have hlt' : ¬ (k : Int) < (s.size : Int) := by omega
      have e : s.data.toList.take k = s.data.toList := List.take_of_length_le (by rw [size_list]; omega)
      have hF := HF.out
      rw [e] at hF
      have HF2 := Lib.hid hF
      have hrow : RowAt encS 1 wr (some ⟨g, 0, none⟩) xs ∧ xs.length ≤ c := by
        obtain ⟨A, d, h1, h2, h3, _⟩ := RowAt.of_own (w := wr) (xs := xs) encS_len (by rw [flat_str]; exact HO.out)
        injection h1 with h1 _ h4
        rw [h1, h4]; exact ⟨h2, h3⟩
      have HR := Lib.hid hrow
      clear e hF hrow
      go_wp2_with fail
      go_ret
      exact ⟨g, c, xs, rfl, HF2.out, HR.out.1, HR.out.2, HB.out⟩
theorem fields_line (s : ByteArray) (w : World) (hs : s.size ≤ 10000) : Calls Tryd.prog 27 #[.string s] w fun e w' => ∃ (g c : Nat) (x : ByteArray) (ys : List ByteArray), e = .returned (.slice (some ⟨g, 0, none⟩) (ys.length + 1) c) ∧ strs (x :: ys) = fieldsP s.data.toList ∧
    RowAt encS 1 w' (some ⟨g, 0, none⟩) (x :: ys) ∧ ys.length + 1 ≤ c ∧ Below w.heap.size w w' ∧ (∀ y ∈ ys, y.size ≤ 10000) ∧ ys.length ≤ 10000 := by
  refine (fields_any s w hs).mono fun e w' hg => ?_
  obtain ⟨g, c, xs, he, h1, h2, h3, hb⟩ := hg
  cases xs with
  | nil => exact absurd h1.symm (fields_ne _)
  | cons x ys =>
    refine ⟨g, c, x, ys, he, h1, h2, h3, hb, fun y hy => ?_, ?_⟩
    · have := bytes_sum s.data.toList y.data.toList (by rw [← h1]; exact List.mem_map.2 ⟨y, by simp [hy], rfl⟩)
      rw [size_list, size_list] at this
      omega
    · have := fields_count s.data.toList
      rw [← h1, size_list] at this
      simp [strs] at this
      omega
end Go.Proofs.YtloecpgfohhmlaaDoor
