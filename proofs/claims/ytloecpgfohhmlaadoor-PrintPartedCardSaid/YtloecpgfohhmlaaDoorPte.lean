/-
  gatefoldlaw29.PrintParted returns true, where one of the two texts is wrong.
-/
import Derived.Test.YtloecpgfohhmlaaDoorPtd
import Derived.IntWalk
namespace Go.Proofs.YtloecpgfohhmlaaDoor
open Go.RowKit Go.Proofs.Prn

theorem lfs_take_succ (l : Bytes) (k : Nat) (h : k < l.length) : lfs (l.take (k + 1)) = lfs (l.take k) + (if l[k] = 10 then 1 else 0) := by
  rw [List.take_succ_eq_append_getElem h, lfs_append]
  simp [lfs]
theorem lfs_next (a : ByteArray) (k : Nat) (h : k < a.size) : ((a[k].toNat : Int) == 10) = true ∧ lfs (a.data.toList.take (k + 1)) = lfs (a.data.toList.take k) + 1 ∨ ((a[k].toNat : Int) == 10) = false ∧ lfs (a.data.toList.take (k + 1)) = lfs (a.data.toList.take k) := by
  have hk : k < a.data.toList.length := by rw [size_list]; exact h
  have e := lfs_take_succ a.data.toList k hk
  rw [get_list a k h] at e
  by_cases hd : a[k] = 10
  · left
    rw [if_pos hd] at e
    exact ⟨by rw [hd]; rfl, e⟩
  · right
    rw [if_neg hd] at e
    refine ⟨?_, by omega⟩
    rw [beq_eq_false_iff_ne]
    intro h'
    apply hd
    apply UInt8.toNat_inj.1
    show _ = 10
    omega

set_option maxHeartbeats 8000000 in
set_option maxRecDepth 100000 in
theorem parted_ww (a b : ByteArray) (m : Int) (w : World) (hT : Tab w) (hm : w.cell? ⟨0, 0, none⟩ = some (.int .i64 m)) (ha : a.size ≤ 2500) (hb : b.size ≤ 2500) (q : Nat) (_hq0 : 0 < q) (hl : parseP a.data.toList = ([], q, 1)) (hle : q ≤ lfs a.data.toList) :
    Calls Tryd.prog 6 #[.string a, .string b] w fun e w' => e = .returned (.bool true) ∧ Below w.heap.size w w' := by
  have hab : (a ++ b).size ≤ 100000 := by rw [ByteArray.size_append]; omega
  have h1 : ¬ (2500 : Int) < (a.size : Int) := by omega
  have h2 : ¬ (2500 : Int) < (b.size : Int) := by omega
  have hadd := join_add a b (by omega)
  have HX0 := Lib.hid (Ctx.start hT hm)
  have HLR : Hid (parseP (a ++ b).data.toList = ([], q, 1)) := by
    show _ = _
    rw [ByteArray.data_append, Array.toList_append]
    exact parse_wrong _ hl hle
  have HL := Lib.hid hl
  have HLE := Lib.hid hle
  clear hl hle
  clear hT hm
  go_enter Tryd.func6, Tryd.ntmps6
  go_wp2_with fail
  refine (parse_no a q m _ (by omega) HX0.out.len HL.out).mono ?_
  rintro e w1 ⟨A, c, rfl, _, hb1⟩
  have HX1 := Lib.hid (HX0.out.on hb1)
  clear hb1 HX0
  go_wp2_with fail
  refine (parse_some b m _ (by omega) HX1.out.len).mono ?_
  rintro e w2 ⟨B, n, d, z1, z2, rfl, hb2⟩
  have HX2 := Lib.hid (HX1.out.on hb2)
  clear hb2 HX1
  go_wp2_with fail
  refine (parse_no (a ++ b) q m _ hab HX2.out.len HLR.out).mono ?_
  rintro e w3 ⟨C, f, rfl, _, hb3⟩
  have HX3 := Lib.hid (HX2.out.on hb3)
  clear hb3 HX2
  go_wp2_with fail
  go_loopw [14, 15] (fun n i wr => ∃ (k t : Nat), i = .int .i64 k ∧ n = .int .i64 t ∧ k ≤ a.size ∧ Hid (t = lfs (a.data.toList.take k)) ∧ t ≤ k ∧ Hid (Ctx w wr m)) (fun _ i _ => a.size - (intOf i).toNat)
  case atStart => exact ⟨0, 0, rfl, rfl, Nat.zero_le _, by show _ = _; rfl, by omega, HX3⟩
  case round =>
    obtain ⟨k, t, rfl, rfl, hk, HT, htk, HX⟩ := hrel
    by_cases hlt : k < a.size
    · have i1 : (0 : Int) ≤ (k : Int) := by omega
      have i2 : (k : Int) < (a.size : Int) := by omega
      rcases lfs_next a k hlt with ⟨hd, e⟩ | ⟨hd, e⟩
      · have HT2 : Hid (t + 1 = lfs (a.data.toList.take (k + 1))) := by show _ = _; rw [e, HT.out]
        clear e HT
        go_wp2_with fail
        go_roundw
        case rel => exact ⟨k + 1, t + 1, by go_num, by go_num, by omega, HT2, by omega, HX⟩
        case measure => simp [intOf]; omega
      · have HT2 : Hid (t = lfs (a.data.toList.take (k + 1))) := by show _ = _; rw [e, HT.out]
        clear e HT
        go_wp2_with fail
        go_roundw
        case rel => exact ⟨k + 1, t, by go_num, rfl, by omega, HT2, by omega, HX⟩
        case measure => simp [intOf]; omega
    · have hlt' : ¬ (k : Int) < (a.size : Int) := by omega
      have ht : t = lfs a.data.toList := by
        rw [HT.out, List.take_of_length_le (by rw [size_list]; omega)]
      clear HT
      have hle' : (q : Int) ≤ (t : Int) := by have := HLE.out; omega
      go_wp2_with fail
      refine (awake_any m _ HX.out.len HX.out.tab).mono ?_
      rintro e w7 ⟨rfl, hb7⟩
      have HX7 := Lib.hid (HX.out.on hb7)
      clear HX hb7
      go_wp2_with fail
      go_ret
      exact ⟨rfl, HX7.out.below⟩

set_option maxHeartbeats 8000000 in
set_option maxRecDepth 100000 in
theorem parted_wt (a b : ByteArray) (m : Int) (w : World) (hT : Tab w) (hm : w.cell? ⟨0, 0, none⟩ = some (.int .i64 m)) (ha : a.size ≤ 2500) (hb : b.size ≤ 2500) (q : Nat) (_hq0 : 0 < q) (hl : parseP a.data.toList = ([], q, 1)) (hle : ¬ q ≤ lfs a.data.toList) :
    Calls Tryd.prog 6 #[.string a, .string b] w fun e w' => e = .returned (.bool true) ∧ Below w.heap.size w w' := by
  have hab : (a ++ b).size ≤ 100000 := by rw [ByteArray.size_append]; omega
  have h1 : ¬ (2500 : Int) < (a.size : Int) := by omega
  have h2 : ¬ (2500 : Int) < (b.size : Int) := by omega
  have hadd := join_add a b (by omega)
  have HX0 := Lib.hid (Ctx.start hT hm)
  have HL := Lib.hid hl
  have HLE := Lib.hid hle
  clear hl hle
  clear hT hm
  go_enter Tryd.func6, Tryd.ntmps6
  go_wp2_with fail
  refine (parse_no a q m _ (by omega) HX0.out.len HL.out).mono ?_
  rintro e w1 ⟨A, c, rfl, _, hb1⟩
  have HX1 := Lib.hid (HX0.out.on hb1)
  clear hb1 HX0
  go_wp2_with fail
  refine (parse_some b m _ (by omega) HX1.out.len).mono ?_
  rintro e w2 ⟨B, n, d, z1, z2, rfl, hb2⟩
  have HX2 := Lib.hid (HX1.out.on hb2)
  clear hb2 HX1
  go_wp2_with fail
  refine (parse_some (a ++ b) m _ hab HX2.out.len).mono ?_
  rintro e w3 ⟨C, n', f, y1, y2, rfl, hb3⟩
  have HX3 := Lib.hid (HX2.out.on hb3)
  clear hb3 HX2
  go_wp2_with fail
  go_loopw [14, 15] (fun n i wr => ∃ (k t : Nat), i = .int .i64 k ∧ n = .int .i64 t ∧ k ≤ a.size ∧ Hid (t = lfs (a.data.toList.take k)) ∧ t ≤ k ∧ Hid (Ctx w wr m)) (fun _ i _ => a.size - (intOf i).toNat)
  case atStart => exact ⟨0, 0, rfl, rfl, Nat.zero_le _, by show _ = _; rfl, by omega, HX3⟩
  case round =>
    obtain ⟨k, t, rfl, rfl, hk, HT, htk, HX⟩ := hrel
    by_cases hlt : k < a.size
    · have i1 : (0 : Int) ≤ (k : Int) := by omega
      have i2 : (k : Int) < (a.size : Int) := by omega
      rcases lfs_next a k hlt with ⟨hd, e⟩ | ⟨hd, e⟩
      · have HT2 : Hid (t + 1 = lfs (a.data.toList.take (k + 1))) := by show _ = _; rw [e, HT.out]
        clear e HT
        go_wp2_with fail
        go_roundw
        case rel => exact ⟨k + 1, t + 1, by go_num, by go_num, by omega, HT2, by omega, HX⟩
        case measure => simp [intOf]; omega
      · have HT2 : Hid (t = lfs (a.data.toList.take (k + 1))) := by show _ = _; rw [e, HT.out]
        clear e HT
        go_wp2_with fail
        go_roundw
        case rel => exact ⟨k + 1, t, by go_num, rfl, by omega, HT2, by omega, HX⟩
        case measure => simp [intOf]; omega
    · have hlt' : ¬ (k : Int) < (a.size : Int) := by omega
      have ht : t = lfs a.data.toList := by
        rw [HT.out, List.take_of_length_le (by rw [size_list]; omega)]
      clear HT
      have hle' : ¬ (q : Int) ≤ (t : Int) := by have := HLE.out; omega
      go_wp2_with fail
      refine (awake_any m _ HX.out.len HX.out.tab).mono ?_
      rintro e w7 ⟨rfl, hb7⟩
      have HX7 := Lib.hid (HX.out.on hb7)
      clear HX hb7
      go_wp2_with fail
      go_ret
      exact ⟨rfl, HX7.out.below⟩

set_option maxHeartbeats 8000000 in
set_option maxRecDepth 100000 in
theorem parted_pw (a b : ByteArray) (m : Int) (w : World) (hT : Tab w) (hm : w.cell? ⟨0, 0, none⟩ = some (.int .i64 m)) (ha : a.size ≤ 2500) (hb : b.size ≤ 2500) (l : List Page) (hne : l.length ≠ 0) (q : Nat) (_hq0 : 0 < q) (hl : parseP a.data.toList = (l, 0, 0)) (hr : parseP b.data.toList = ([], q, 1)) :
    Calls Tryd.prog 6 #[.string a, .string b] w fun e w' => e = .returned (.bool true) ∧ Below w.heap.size w w' := by
  have hab : (a ++ b).size ≤ 100000 := by rw [ByteArray.size_append]; omega
  have h1 : ¬ (2500 : Int) < (a.size : Int) := by omega
  have h2 : ¬ (2500 : Int) < (b.size : Int) := by omega
  have hadd := join_add a b (by omega)
  have HX0 := Lib.hid (Ctx.start hT hm)
  have HL := Lib.hid hl
  have HR := Lib.hid hr
  have hne' : ¬ (l.length : Int) = 0 := by omega
  clear hl hr
  clear hT hm
  go_enter Tryd.func6, Tryd.ntmps6
  go_wp2_with fail
  refine (parse_ok a l m _ (by omega) HX0.out.len HL.out).mono ?_
  rintro e w1 ⟨A, c, rfl, _, hb1⟩
  have HX1 := Lib.hid (HX0.out.on hb1)
  clear hb1 HX0
  go_wp2_with fail
  refine (parse_no b q m _ (by omega) HX1.out.len HR.out).mono ?_
  rintro e w2 ⟨B, d, rfl, _, hb2⟩
  have HX2 := Lib.hid (HX1.out.on hb2)
  clear hb2 HX1
  go_wp2_with fail
  refine (parse_some (a ++ b) m _ hab HX2.out.len).mono ?_
  rintro e w3 ⟨C, n', f, y1, y2, rfl, hb3⟩
  have HX3 := Lib.hid (HX2.out.on hb3)
  clear hb3 HX2
  go_wp2_with fail
  go_loopw [14, 15] (fun n i wr => ∃ (k t : Nat), i = .int .i64 k ∧ n = .int .i64 t ∧ k ≤ a.size ∧ Hid (t = lfs (a.data.toList.take k)) ∧ t ≤ k ∧ Hid (Ctx w wr m)) (fun _ i _ => a.size - (intOf i).toNat)
  case atStart => exact ⟨0, 0, rfl, rfl, Nat.zero_le _, by show _ = _; rfl, by omega, HX3⟩
  case round =>
    obtain ⟨k, t, rfl, rfl, hk, HT, htk, HX⟩ := hrel
    by_cases hlt : k < a.size
    · have i1 : (0 : Int) ≤ (k : Int) := by omega
      have i2 : (k : Int) < (a.size : Int) := by omega
      rcases lfs_next a k hlt with ⟨hd, e⟩ | ⟨hd, e⟩
      · have HT2 : Hid (t + 1 = lfs (a.data.toList.take (k + 1))) := by show _ = _; rw [e, HT.out]
        clear e HT
        go_wp2_with fail
        go_roundw
        case rel => exact ⟨k + 1, t + 1, by go_num, by go_num, by omega, HT2, by omega, HX⟩
        case measure => simp [intOf]; omega
      · have HT2 : Hid (t = lfs (a.data.toList.take (k + 1))) := by show _ = _; rw [e, HT.out]
        clear e HT
        go_wp2_with fail
        go_roundw
        case rel => exact ⟨k + 1, t, by go_num, rfl, by omega, HT2, by omega, HX⟩
        case measure => simp [intOf]; omega
    · have hlt' : ¬ (k : Int) < (a.size : Int) := by omega
      have ht : t = lfs a.data.toList := by
        rw [HT.out, List.take_of_length_le (by rw [size_list]; omega)]
      clear HT
      clear ht
      go_wp2_with fail
      refine (awake_any m _ HX.out.len HX.out.tab).mono ?_
      rintro e w7 ⟨rfl, hb7⟩
      have HX7 := Lib.hid (HX.out.on hb7)
      clear HX hb7
      go_wp2_with fail
      go_ret
      exact ⟨rfl, HX7.out.below⟩

set_option maxHeartbeats 8000000 in
set_option maxRecDepth 100000 in
theorem parted_ew (a b : ByteArray) (m : Int) (w : World) (hT : Tab w) (hm : w.cell? ⟨0, 0, none⟩ = some (.int .i64 m)) (ha : a.size ≤ 2500) (hb : b.size ≤ 2500) (q : Nat) (_hq0 : 0 < q) (hl : parseP a.data.toList = ([], 0, 0)) (hr : parseP b.data.toList = ([], q, 1)) :
    Calls Tryd.prog 6 #[.string a, .string b] w fun e w' => e = .returned (.bool true) ∧ Below w.heap.size w w' := by
  have hab : (a ++ b).size ≤ 100000 := by rw [ByteArray.size_append]; omega
  have h1 : ¬ (2500 : Int) < (a.size : Int) := by omega
  have h2 : ¬ (2500 : Int) < (b.size : Int) := by omega
  have hadd := join_add a b (by omega)
  have HX0 := Lib.hid (Ctx.start hT hm)
  have HLR : Hid (parseP (a ++ b).data.toList = ([], q, 1)) := by
    show _ = _
    rw [ByteArray.data_append, Array.toList_append, parse_empty hl]
    exact hr
  have HL := Lib.hid hl
  have HR := Lib.hid hr
  clear hl hr
  clear hT hm
  go_enter Tryd.func6, Tryd.ntmps6
  go_wp2_with fail
  refine (parse_ok a [] m _ (by omega) HX0.out.len HL.out).mono ?_
  rintro e w1 ⟨A, c, rfl, _, hb1⟩
  have HX1 := Lib.hid (HX0.out.on hb1)
  clear hb1 HX0
  go_wp2_with fail
  refine (parse_no b q m _ (by omega) HX1.out.len HR.out).mono ?_
  rintro e w2 ⟨B, d, rfl, _, hb2⟩
  have HX2 := Lib.hid (HX1.out.on hb2)
  clear hb2 HX1
  go_wp2_with fail
  refine (parse_no (a ++ b) q m _ hab HX2.out.len HLR.out).mono ?_
  rintro e w3 ⟨C, f, rfl, _, hb3⟩
  have HX3 := Lib.hid (HX2.out.on hb3)
  clear hb3 HX2
  go_wp2_with fail
  go_loopw [14, 15] (fun n i wr => ∃ (k t : Nat), i = .int .i64 k ∧ n = .int .i64 t ∧ k ≤ a.size ∧ Hid (t = lfs (a.data.toList.take k)) ∧ t ≤ k ∧ Hid (Ctx w wr m)) (fun _ i _ => a.size - (intOf i).toNat)
  case atStart => exact ⟨0, 0, rfl, rfl, Nat.zero_le _, by show _ = _; rfl, by omega, HX3⟩
  case round =>
    obtain ⟨k, t, rfl, rfl, hk, HT, htk, HX⟩ := hrel
    by_cases hlt : k < a.size
    · have i1 : (0 : Int) ≤ (k : Int) := by omega
      have i2 : (k : Int) < (a.size : Int) := by omega
      rcases lfs_next a k hlt with ⟨hd, e⟩ | ⟨hd, e⟩
      · have HT2 : Hid (t + 1 = lfs (a.data.toList.take (k + 1))) := by show _ = _; rw [e, HT.out]
        clear e HT
        go_wp2_with fail
        go_roundw
        case rel => exact ⟨k + 1, t + 1, by go_num, by go_num, by omega, HT2, by omega, HX⟩
        case measure => simp [intOf]; omega
      · have HT2 : Hid (t = lfs (a.data.toList.take (k + 1))) := by show _ = _; rw [e, HT.out]
        clear e HT
        go_wp2_with fail
        go_roundw
        case rel => exact ⟨k + 1, t, by go_num, rfl, by omega, HT2, by omega, HX⟩
        case measure => simp [intOf]; omega
    · have hlt' : ¬ (k : Int) < (a.size : Int) := by omega
      have ht : t = lfs a.data.toList := by
        rw [HT.out, List.take_of_length_le (by rw [size_list]; omega)]
      clear HT
      clear ht
      go_wp2_with fail
      refine (awake_any m _ HX.out.len HX.out.tab).mono ?_
      rintro e w7 ⟨rfl, hb7⟩
      have HX7 := Lib.hid (HX.out.on hb7)
      clear HX hb7
      go_wp2_with fail
      go_ret
      exact ⟨rfl, HX7.out.below⟩

theorem parted_any (a b : ByteArray) (m : Int) (w : World) (hT : Tab w) (hm : w.cell? ⟨0, 0, none⟩ = some (.int .i64 m)) (ha : a.size ≤ 9223372036854775807) (hb : b.size ≤ 9223372036854775807) :
    Calls Tryd.prog 6 #[.string a, .string b] w fun e w' => e = .returned (.bool true) ∧ Below w.heap.size w w' := by
  by_cases hl : 2500 < a.size ∨ 2500 < b.size
  · exact parted_long a b m w hT hm ha hb hl
  · have ha' : a.size ≤ 2500 := by omega
    have hb' : b.size ≤ 2500 := by omega
    rcases parse_form a.data.toList with ⟨l, h1⟩ | ⟨q, hq, h1⟩
    · rcases parse_form b.data.toList with ⟨r, h2⟩ | ⟨q, hq, h2⟩
      · exact parted_both a b m w hT hm ha' hb' l r h1 h2
      · cases l with
        | nil => exact parted_ew a b m w hT hm ha' hb' q hq h1 h2
        | cons p l => exact parted_pw a b m w hT hm ha' hb' (p :: l) (by simp) q hq h1 h2
    · by_cases h : q ≤ lfs a.data.toList
      · exact parted_ww a b m w hT hm ha' hb' q hq h1 h
      · exact parted_wt a b m w hT hm ha' hb' q hq h1 h
end Go.Proofs.YtloecpgfohhmlaaDoor
