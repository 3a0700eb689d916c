/-
  gatefoldref29.number, for every string of a bounded length: the number that it tells, or none.
-/
import Derived.Test.YtloecpgfohhmlaaDoorPna
import Derived.Test.YtloecpgfohhmlaaDoorQbl
import Derived.IntWalk
namespace Go.Proofs.YtloecpgfohhmlaaDoor
open Go.RowKit Go.Proofs.Prn

/-- What the reference's number says of a text. -/
def RnumIs (l : Bytes) (z : Int) (b : Bool) : Prop := numP l = (if b = true then some z else none) ∧ -999999999999999999 ≤ z ∧ z ≤ 999999999999999999
def RnumGives (l : Bytes) (w : World) (e : Ending) (w' : World) : Prop := ∃ z b, e = .returned (.tuple #[.int .i64 z, .bool b]) ∧ RnumIs l z b ∧ Below w.heap.size w w'
theorem num_none (l : Bytes) (h : natB l = false) (hh : l.head? ≠ some 45 ∨ l.length ≤ 1) : numP l = none := by
  by_cases h45 : l.head? = some 45
  · rcases hh with hh | hh
    · exact absurd h45 hh
    · match l, h45, hh with
      | [c], h45, _ =>
        injection h45 with e
        subst e
        exact numP_neg_none [] rfl
  · exact numP_pos_none l h45 h
theorem rnum_none (l : Bytes) (h : natB l = false) (hh : l.head? ≠ some 45 ∨ l.length ≤ 1) : RnumIs l 0 false := ⟨num_none l h hh, by decide, by decide⟩
theorem natB_of (l : Bytes) (h0 : l ≠ []) (h1 : l.all digB = true) (h2 : l.length ≤ 18) (h3 : l.head? ≠ some 48 ∨ l.length ≤ 1) : natB l = true := by
  unfold natB
  rw [h1]
  cases l with
  | nil => exact absurd rfl h0
  | cons c r =>
    simp only [List.isEmpty_cons, Bool.not_false, Bool.true_and, Bool.and_eq_true, decide_eq_true_eq, Bool.or_eq_true, bne_iff_ne, ne_eq]
    exact ⟨h2, h3⟩
theorem rnum_some (l : Bytes) (h0 : l ≠ []) (h1 : l.all digB = true) (h2 : l.length ≤ 18) (h3 : l.head? ≠ some 48 ∨ l.length ≤ 1) : RnumIs l (valD l) true := by
  have hn := natB_of l h0 h1 h2 h3
  have := valD_le hn
  exact ⟨by rw [numP_pos_some l hn]; rfl, by omega, by omega⟩
theorem val_bound (l : Bytes) (k : Nat) (hk : k ≤ 17) (h : (l.take k).all digB = true) : valD (l.take k) ≤ 99999999999999999 := by
  have h4 := valD_lt (l.take k) h
  rw [List.length_take] at h4
  have h5 : 10 ^ (min k l.length) ≤ 10 ^ 17 := Nat.pow_le_pow_right (by omega) (by omega)
  omega

set_option maxHeartbeats 8000000 in
set_option maxRecDepth 100000 in
theorem rnum_pos (s : ByteArray) (w : World) (hs : s.size ≤ 1000000) (hh : s.size ≤ 1 ∨ ∀ h : 0 < s.size, s[0] ≠ 45) :
    Calls Tryd.prog 39 #[.string s] w (RnumGives s.data.toList w) := by
  have HH : Hid (s.data.toList.head? ≠ some 45 ∨ s.data.toList.length ≤ 1) := by
    rcases hh with h | h
    · exact .inr (by rw [size_list]; exact h)
    · by_cases h0 : 0 < s.size
      · left
        rw [head_get s h0]
        intro e
        injection e with e
        exact h h0 e
      · exact .inr (by rw [size_list]; omega)
  have b45 : ∀ h : 0 < s.size, 1 < s.size → (((s[0]'h).toNat : Int) == 45) = false := fun h h1 => by
    rcases hh with hh | hh
    · omega
    · rw [beq_eq_false_iff_ne]
      intro e
      exact hh h (UInt8.toNat_inj.1 (by show _ = 45; omega))
  by_cases h0 : s.size = 0
  · obtain ⟨e1, e2⟩ := str_empty s h0
    have hR := rnum_none s.data.toList (by rw [← ByteArray.toList_eq, e1]; rfl) HH.out
    have h1 : ¬ (1 : Int) < (s.size : Int) := by omega
    have HR := Lib.hid hR
    clear hR b45 hh
    go_enter Tryd.func39, Tryd.ntmps39
    go_wp2_with fail
    go_ret2
    exact ⟨0, false, rfl, HR.out, Below.refl _ _⟩
  · have h0' : 0 < s.size := by omega
    obtain ⟨e1, e2⟩ := str_some s h0'
    have hb45 := b45 h0'
    have c0 : (0 : Int) < (s.size : Int) := by omega
    clear b45 hh
    have ehd := head_get s h0'
    by_cases h18 : 18 < s.size
    · have hR := rnum_none s.data.toList (too_long _ (by rw [size_list]; exact h18)) HH.out
      have HR := Lib.hid hR
      have h1 : (1 : Int) < (s.size : Int) := by omega
      have h18' : (18 : Int) < (s.size : Int) := by omega
      have hb := hb45 (by omega)
      clear hR
      go_enter Tryd.func39, Tryd.ntmps39
      go_wp2_with fail
      go_ret2
      exact ⟨0, false, rfl, HR.out, Below.refl _ _⟩
    · have h18' : ¬ (18 : Int) < (s.size : Int) := by omega
      by_cases hz : s[0] = 48 ∧ 1 < s.size
      · obtain ⟨hz, h1⟩ := hz
        have hR := rnum_none s.data.toList (nat_zero _ (by rw [ehd, hz]) (by rw [size_list]; exact h1)) HH.out
        have HR := Lib.hid hR
        have h1' : (1 : Int) < (s.size : Int) := by omega
        have hb := hb45 h1
        have hz' : (((s[0]'h0').toNat : Int) == 48) = true := by rw [hz]; rfl
        clear hR ehd hb45
        go_enter Tryd.func39, Tryd.ntmps39
        go_wp2_with fail
        go_ret2
        exact ⟨0, false, rfl, HR.out, Below.refl _ _⟩
      · have HZ : Hid (s.data.toList.head? ≠ some 48 ∨ s.data.toList.length ≤ 1) := by
          rw [ehd, size_list]
          by_cases h48 : s[0] = 48
          · right; exact Nat.le_of_not_lt fun h => hz ⟨h48, h⟩
          · left; intro e; injection e with e; exact h48 e
        have HN0 : Hid (s.data.toList ≠ []) := fun e => by
          have := congrArg List.length e
          rw [size_list, List.length_nil] at this
          omega
        have hzb : 1 < s.size → (((s[0]'h0').toNat : Int) == 48) = false := fun h => by
          rw [beq_eq_false_iff_ne]
          intro e
          exact hz ⟨UInt8.toNat_inj.1 (by show _ = 48; omega), h⟩
        clear ehd hz
        by_cases h1 : 1 < s.size
        · have h1' : (1 : Int) < (s.size : Int) := by omega
          have hb := hb45 h1
          have hz := hzb h1
          clear hb45 hzb
          go_enter Tryd.func39, Tryd.ntmps39
          go_wp2_with fail
          go_loopw [6, 7] (fun n i wr => ∃ k v : Nat, i = .int .i64 k ∧ n = .int .i64 v ∧ k ≤ s.size ∧ Hid (v = valD (s.data.toList.take k)) ∧ Hid ((s.data.toList.take k).all digB = true) ∧ Hid (Below w.heap.size w wr)) (fun _ i _ => s.size - (intOf i).toNat)
          case atStart => exact ⟨0, 0, rfl, rfl, Nat.zero_le _, by show _ = _; rfl, by show List.all _ _ = true; rfl, Below.refl _ _⟩
          case round =>
            obtain ⟨k, v, rfl, rfl, hk, HV, HD, HB⟩ := hrel
            by_cases hlt : k < s.size
            · have hlt' : (k : Int) < (s.size : Int) := by omega
              have i0 : (0 : Int) ≤ (k : Int) := by omega
              have hkl : k < s.data.toList.length := by rw [size_list]; exact hlt
              have hgl : s.data.toList[k] = s[k] := get_list s k hlt
              have hvb : v ≤ 99999999999999999 := by rw [HV.out]; exact val_bound _ k (by omega) HD.out
              by_cases hd : 48 ≤ (s[k]'hlt).toNat ∧ (s[k]'hlt).toNat ≤ 57
              · obtain ⟨d1, d2⟩ := hd
                have l1 : ¬ ((s[k]'hlt).toNat : Int) < 48 := by omega
                have l2 : ¬ (57 : Int) < ((s[k]'hlt).toNat : Int) := by omega
                have HV2 : Hid (10 * v + ((s[k]'hlt).toNat - 48) = valD (s.data.toList.take (k + 1))) := by show _ = _; rw [val_take_snoc _ k hkl, hgl, HV.out]
                have HD2 : Hid ((s.data.toList.take (k + 1)).all digB = true) := all_take_snoc _ k hkl HD.out (by rw [hgl, digB_iff]; exact ⟨d1, d2⟩)
                have w1 : wrap64 (10 * (v : Int)) = 10 * (v : Int) := IntWalk.wrap64_in _ (by omega)
                have w2 : wrap64 (10 * (v : Int) + (((s[k]'hlt).toNat : Int) - 48)) = 10 * (v : Int) + (((s[k]'hlt).toNat : Int) - 48) := IntWalk.wrap64_in _ (by omega)
                clear hgl HV HD
                go_wp2_with fail
                go_roundw
                case rel => exact ⟨k + 1, 10 * v + ((s[k]'hlt).toNat - 48), by go_num, by congr 1; omega, by omega, HV2.out, HD2.out, HB.out⟩
                case measure => simp [intOf]; omega
              · have HR := Lib.hid (rnum_none s.data.toList (not_dig _ k hkl (by rw [hgl]; exact hd)) HH.out)
                by_cases h48 : (s[k]'hlt).toNat < 48
                · have h48' : ((s[k]'hlt).toNat : Int) < 48 := by omega
                  clear hgl hd
                  go_wp2_with fail
                  go_ret2
                  exact ⟨0, false, rfl, HR.out, HB.out⟩
                · have h48' : ¬ ((s[k]'hlt).toNat : Int) < 48 := by omega
                  have h57' : (57 : Int) < ((s[k]'hlt).toNat : Int) := by omega
                  clear hgl hd
                  go_wp2_with fail
                  go_ret2
                  exact ⟨0, false, rfl, HR.out, HB.out⟩
            · have hlt' : ¬ (k : Int) < (s.size : Int) := by omega
              have e : s.data.toList.take k = s.data.toList := List.take_of_length_le (by rw [size_list]; omega)
              have HR : Hid (RnumIs s.data.toList v true) := by
                have hd := HD.out
                have hv := HV.out
                rw [e] at hd hv
                rw [hv]
                exact rnum_some _ HN0.out hd (by rw [size_list]; omega) HZ.out
              clear e
              go_wp2_with fail
              go_ret2
              exact ⟨v, true, rfl, HR.out, HB.out⟩
        · have h1' : ¬ (1 : Int) < (s.size : Int) := by omega
          clear hb45 hzb
          cases hz : (((s[0]'h0').toNat : Int) == 48) with
          | true =>
            go_enter Tryd.func39, Tryd.ntmps39
            go_wp2_with fail
            go_loopw [6, 7] (fun n i wr => ∃ k v : Nat, i = .int .i64 k ∧ n = .int .i64 v ∧ k ≤ s.size ∧ Hid (v = valD (s.data.toList.take k)) ∧ Hid ((s.data.toList.take k).all digB = true) ∧ Hid (Below w.heap.size w wr)) (fun _ i _ => s.size - (intOf i).toNat)
            case atStart => exact ⟨0, 0, rfl, rfl, Nat.zero_le _, by show _ = _; rfl, by show List.all _ _ = true; rfl, Below.refl _ _⟩
            case round =>
              obtain ⟨k, v, rfl, rfl, hk, HV, HD, HB⟩ := hrel
              by_cases hlt : k < s.size
              · have hlt' : (k : Int) < (s.size : Int) := by omega
                have i0 : (0 : Int) ≤ (k : Int) := by omega
                have hkl : k < s.data.toList.length := by rw [size_list]; exact hlt
                have hgl : s.data.toList[k] = s[k] := get_list s k hlt
                have hvb : v ≤ 99999999999999999 := by rw [HV.out]; exact val_bound _ k (by omega) HD.out
                by_cases hd : 48 ≤ (s[k]'hlt).toNat ∧ (s[k]'hlt).toNat ≤ 57
                · obtain ⟨d1, d2⟩ := hd
                  have l1 : ¬ ((s[k]'hlt).toNat : Int) < 48 := by omega
                  have l2 : ¬ (57 : Int) < ((s[k]'hlt).toNat : Int) := by omega
                  have HV2 : Hid (10 * v + ((s[k]'hlt).toNat - 48) = valD (s.data.toList.take (k + 1))) := by show _ = _; rw [val_take_snoc _ k hkl, hgl, HV.out]
                  have HD2 : Hid ((s.data.toList.take (k + 1)).all digB = true) := all_take_snoc _ k hkl HD.out (by rw [hgl, digB_iff]; exact ⟨d1, d2⟩)
                  have w1 : wrap64 (10 * (v : Int)) = 10 * (v : Int) := IntWalk.wrap64_in _ (by omega)
                  have w2 : wrap64 (10 * (v : Int) + (((s[k]'hlt).toNat : Int) - 48)) = 10 * (v : Int) + (((s[k]'hlt).toNat : Int) - 48) := IntWalk.wrap64_in _ (by omega)
                  clear hgl HV HD
                  go_wp2_with fail
                  go_roundw
                  case rel => exact ⟨k + 1, 10 * v + ((s[k]'hlt).toNat - 48), by go_num, by congr 1; omega, by omega, HV2.out, HD2.out, HB.out⟩
                  case measure => simp [intOf]; omega
                · have HR := Lib.hid (rnum_none s.data.toList (not_dig _ k hkl (by rw [hgl]; exact hd)) HH.out)
                  by_cases h48 : (s[k]'hlt).toNat < 48
                  · have h48' : ((s[k]'hlt).toNat : Int) < 48 := by omega
                    clear hgl hd
                    go_wp2_with fail
                    go_ret2
                    exact ⟨0, false, rfl, HR.out, HB.out⟩
                  · have h48' : ¬ ((s[k]'hlt).toNat : Int) < 48 := by omega
                    have h57' : (57 : Int) < ((s[k]'hlt).toNat : Int) := by omega
                    clear hgl hd
                    go_wp2_with fail
                    go_ret2
                    exact ⟨0, false, rfl, HR.out, HB.out⟩
              · have hlt' : ¬ (k : Int) < (s.size : Int) := by omega
                have e : s.data.toList.take k = s.data.toList := List.take_of_length_le (by rw [size_list]; omega)
                have HR : Hid (RnumIs s.data.toList v true) := by
                  have hd := HD.out
                  have hv := HV.out
                  rw [e] at hd hv
                  rw [hv]
                  exact rnum_some _ HN0.out hd (by rw [size_list]; omega) HZ.out
                clear e
                go_wp2_with fail
                go_ret2
                exact ⟨v, true, rfl, HR.out, HB.out⟩
          | false =>
            go_enter Tryd.func39, Tryd.ntmps39
            go_wp2_with fail
            go_loopw [6, 7] (fun n i wr => ∃ k v : Nat, i = .int .i64 k ∧ n = .int .i64 v ∧ k ≤ s.size ∧ Hid (v = valD (s.data.toList.take k)) ∧ Hid ((s.data.toList.take k).all digB = true) ∧ Hid (Below w.heap.size w wr)) (fun _ i _ => s.size - (intOf i).toNat)
            case atStart => exact ⟨0, 0, rfl, rfl, Nat.zero_le _, by show _ = _; rfl, by show List.all _ _ = true; rfl, Below.refl _ _⟩
            case round =>
              obtain ⟨k, v, rfl, rfl, hk, HV, HD, HB⟩ := hrel
              by_cases hlt : k < s.size
              · have hlt' : (k : Int) < (s.size : Int) := by omega
                have i0 : (0 : Int) ≤ (k : Int) := by omega
                have hkl : k < s.data.toList.length := by rw [size_list]; exact hlt
                have hgl : s.data.toList[k] = s[k] := get_list s k hlt
                have hvb : v ≤ 99999999999999999 := by rw [HV.out]; exact val_bound _ k (by omega) HD.out
                by_cases hd : 48 ≤ (s[k]'hlt).toNat ∧ (s[k]'hlt).toNat ≤ 57
                · obtain ⟨d1, d2⟩ := hd
                  have l1 : ¬ ((s[k]'hlt).toNat : Int) < 48 := by omega
                  have l2 : ¬ (57 : Int) < ((s[k]'hlt).toNat : Int) := by omega
                  have HV2 : Hid (10 * v + ((s[k]'hlt).toNat - 48) = valD (s.data.toList.take (k + 1))) := by show _ = _; rw [val_take_snoc _ k hkl, hgl, HV.out]
                  have HD2 : Hid ((s.data.toList.take (k + 1)).all digB = true) := all_take_snoc _ k hkl HD.out (by rw [hgl, digB_iff]; exact ⟨d1, d2⟩)
                  have w1 : wrap64 (10 * (v : Int)) = 10 * (v : Int) := IntWalk.wrap64_in _ (by omega)
                  have w2 : wrap64 (10 * (v : Int) + (((s[k]'hlt).toNat : Int) - 48)) = 10 * (v : Int) + (((s[k]'hlt).toNat : Int) - 48) := IntWalk.wrap64_in _ (by omega)
                  clear hgl HV HD
                  go_wp2_with fail
                  go_roundw
                  case rel => exact ⟨k + 1, 10 * v + ((s[k]'hlt).toNat - 48), by go_num, by congr 1; omega, by omega, HV2.out, HD2.out, HB.out⟩
                  case measure => simp [intOf]; omega
                · have HR := Lib.hid (rnum_none s.data.toList (not_dig _ k hkl (by rw [hgl]; exact hd)) HH.out)
                  by_cases h48 : (s[k]'hlt).toNat < 48
                  · have h48' : ((s[k]'hlt).toNat : Int) < 48 := by omega
                    clear hgl hd
                    go_wp2_with fail
                    go_ret2
                    exact ⟨0, false, rfl, HR.out, HB.out⟩
                  · have h48' : ¬ ((s[k]'hlt).toNat : Int) < 48 := by omega
                    have h57' : (57 : Int) < ((s[k]'hlt).toNat : Int) := by omega
                    clear hgl hd
                    go_wp2_with fail
                    go_ret2
                    exact ⟨0, false, rfl, HR.out, HB.out⟩
              · have hlt' : ¬ (k : Int) < (s.size : Int) := by omega
                have e : s.data.toList.take k = s.data.toList := List.take_of_length_le (by rw [size_list]; omega)
                have HR : Hid (RnumIs s.data.toList v true) := by
                  have hd := HD.out
                  have hv := HV.out
                  rw [e] at hd hv
                  rw [hv]
                  exact rnum_some _ HN0.out hd (by rw [size_list]; omega) HZ.out
                clear e
                go_wp2_with fail
                go_ret2
                exact ⟨v, true, rfl, HR.out, HB.out⟩

theorem tail_list (s : ByteArray) : (s.extract 1 s.size).data.toList = s.data.toList.drop 1 := by
  rw [ByteArray.data_extract, Array.toList_extract, List.extract_eq_take_drop]
  rw [List.take_of_length_le]
  rw [List.length_drop, size_list]
  omega
theorem list_cons (s : ByteArray) (h : 0 < s.size) : s.data.toList = s[0] :: s.data.toList.drop 1 := by
  have h' : 0 < s.data.toList.length := by rw [size_list]; exact h
  have := List.drop_eq_getElem_cons h'
  rw [get_list s 0 h] at this
  simpa using this
theorem rnum_neg (r : Bytes) (z : Int) (b : Bool) (h : RnumIs r z b) (h0 : r ≠ []) : RnumIs (45 :: r) (-z) (b && (decide (0 < z) && r.head? != some 45)) := by
  obtain ⟨h1, h2, h3⟩ := h
  refine ⟨?_, by omega, by omega⟩
  rw [numP_neg]
  by_cases h45 : r.head? = some 45
  · have hn : natB r = false := by
      cases hb : natB r with
      | false => rfl
      | true => exact absurd h45 (head_dig (natB_spec hb).2.1)
    rw [hn, h45]
    simp
  · have h45' : (r.head? != some 45) = true := by simpa using h45
    rw [h45', Bool.and_true]
    cases hn : natB r with
    | false =>
      rw [numP_pos_none r h45 hn] at h1
      cases b with
      | true => simp at h1
      | false => simp
    | true =>
      rw [numP_pos_some r hn] at h1
      cases b with
      | false => simp at h1
      | true =>
        simp only [if_true, Option.some.injEq] at h1
        subst h1
        obtain ⟨_, g2, _, g4⟩ := natB_spec hn
        by_cases h48 : r.head? = some 48
        · have hv : valD r = 0 := by
            rcases g4 with g4 | g4
            · exact absurd h48 g4
            · match r, h48, g4 with
              | [c], h48, _ =>
                injection h48 with e
                subst e
                rfl
          rw [hv, h48]
          simp
        · have hv := valD_pos r g2 h0 h48
          have e1 : (r.head? != some 48) = true := by simpa using h48
          have e2 : decide ((0 : Int) < (valD r : Int)) = true := decide_eq_true (by omega)
          rw [e1, e2]

set_option maxHeartbeats 8000000 in
set_option maxRecDepth 100000 in
theorem rnum_dash (s : ByteArray) (w : World) (h1 : 1 < s.size) (h45 : s[0]'(by omega) = 45)
    (hr : Calls Tryd.prog 39 #[.string (s.extract 1 s.size)] w (RnumGives (s.extract 1 s.size).data.toList w)) :
    Calls Tryd.prog 39 #[.string s] w (RnumGives s.data.toList w) := by
  have h1' : (1 : Int) < (s.size : Int) := by omega
  have h0' : (0 : Int) < (s.size : Int) := by omega
  have hb : (((s[0]'(by omega)).toNat : Int) == 45) = true := by rw [h45]; rfl
  have HR := Lib.hid hr
  have HLL : Hid (s.data.toList = 45 :: (s.extract 1 s.size).data.toList) := by
    show _ = _
    rw [tail_list, list_cons s (by omega), h45]; simp
  clear hr
  go_enter Tryd.func39, Tryd.ntmps39
  go_wp2_with fail
  refine HR.out.mono ?_
  rintro e w1 ⟨z, b, rfl, hn, hb1⟩
  have HN := Lib.hid hn
  have HB := Lib.hid hb1
  clear hn hb1 HR
  have hzl := HN.out.2.1
  have hzh := HN.out.2.2
  have hw : wrap64 (-z) = -z := IntWalk.wrap64_in _ (by omega)
  have hne : (s.extract 1 s.size).data.toList ≠ [] := fun e => by
    have := congrArg List.length e
    rw [tail_list, List.length_drop, size_list, List.length_nil] at this
    omega
  have hhd : (s.extract 1 s.size).data.toList.head? = some (s[1]'h1) := by
    rw [tail_list, List.head?_drop]
    rw [List.getElem?_eq_getElem (by rw [size_list]; exact h1)]
    rw [get_list s 1 h1]
  have HZ := Lib.hid (rnum_neg _ z b HN.out hne)
  have HHD := Lib.hid hhd
  clear hne hhd
  cases b with
  | false =>
    have HR2 : Hid (RnumIs s.data.toList (-z) false) := by show RnumIs _ _ _; rw [HLL.out]; exact HZ.out
    clear HZ HN
    go_wp2_with fail
    go_quiet (fail)
    go_wp2_with fail
    go_ret2
    exact ⟨-z, false, by first | rfl | (rw [hw]; rfl), HR2.out, bdn HB.out _⟩
  | true =>
    by_cases hz : 0 < z
    · by_cases h1d : (s[1]'h1) = 45
      · have HR2 : Hid (RnumIs s.data.toList (-z) false) := by
          show RnumIs _ _ _
          rw [HLL.out]
          have := HZ.out
          rw [HHD.out, h1d] at this
          simpa using this
        have hb1 : (((s[1]'h1).toNat : Int) == 45) = true := by rw [h1d]; rfl
        clear HZ HN
        go_wp2_with fail
        go_quiet (fail)
        go_wp2_with fail
        go_ret2
        exact ⟨-z, false, by first | rfl | (rw [hw]; rfl), HR2.out, bdn HB.out _⟩
      · have HR2 : Hid (RnumIs s.data.toList (-z) true) := by
          show RnumIs _ _ _
          rw [HLL.out]
          have := HZ.out
          rw [HHD.out] at this
          have e1 : decide (0 < z) = true := decide_eq_true hz
          have e2 : (some (s[1]'h1) != some 45) = true := by simpa using h1d
          rw [e1, e2] at this
          exact this
        have hb1 : (((s[1]'h1).toNat : Int) == 45) = false := by
          rw [beq_eq_false_iff_ne]
          intro e
          exact h1d (UInt8.toNat_inj.1 (by show _ = 45; omega))
        have hb2 : (((s[1]'h1).toNat : Int) != 45) = true := by rw [bne, hb1]; rfl
        clear HZ HN
        go_wp2_with fail
        go_quiet (fail)
        go_wp2_with fail
        go_ret2
        exact ⟨-z, true, by first | rfl | (rw [hw]; rfl), HR2.out, bdn HB.out _⟩
    · have HR2 : Hid (RnumIs s.data.toList (-z) false) := by
        show RnumIs _ _ _
        rw [HLL.out]
        have := HZ.out
        have e1 : decide (0 < z) = false := decide_eq_false hz
        rw [e1] at this
        exact this
      have hz' : decide (0 < z) = false := decide_eq_false hz
      clear HZ HN
      go_wp2_with fail
      go_quiet (fail)
      go_wp2_with fail
      go_ret2
      exact ⟨-z, false, by first | rfl | (rw [hw]; rfl), HR2.out, bdn HB.out _⟩

theorem rnum_any : ∀ (n : Nat) (s : ByteArray) (w : World), s.size ≤ n → n ≤ 1000000 → Calls Tryd.prog 39 #[.string s] w (RnumGives s.data.toList w) := by
  intro n
  induction n with
  | zero => intro s w hs hn; exact rnum_pos s w (by omega) (.inl (by omega))
  | succ n ih =>
    intro s w hs hn
    by_cases h1 : 1 < s.size
    · by_cases h45 : s[0]'(by omega) = 45
      · exact rnum_dash s w h1 h45 (ih _ w (by rw [ByteArray.size_extract]; omega) (by omega))
      · exact rnum_pos s w (by omega) (.inr fun h => h45)
    · exact rnum_pos s w (by omega) (.inl (by omega))
end Go.Proofs.YtloecpgfohhmlaaDoor
