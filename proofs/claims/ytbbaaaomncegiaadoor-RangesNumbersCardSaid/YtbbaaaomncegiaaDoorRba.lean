/-
  gatefoldlaw32.RangesBack returns true at whatever spans, whatever text; below the heap's size nothing turns.
-/
import Derived.Test.YtbbaaaomncegiaaDoorRgp
namespace Go.Proofs.YtbbaaaomncegiaaDoor
open Go.RowKit Go.Proofs.Spn Go.Proofs.Rng Go.Proofs.Prn

theorem text_ne {a b : Bytes} (h : a ≠ b) : ((bs a).toList == (bs b).toList) = false := by
  rw [beq_eq_false_iff_ne, ByteArray.toList_eq, ByteArray.toList_eq]
  exact h
theorem text_eq {a b : Bytes} (h : a = b) : ((bs a).toList == (bs b).toList) = true := by rw [h, beq_iff_eq]
theorem write_size {l : List Sp} (h : May l) : (bs (writeR l)).size ≤ 10000000 := by
  rw [bs_size]
  have := write_len h
  have := h.count
  omega

set_option maxHeartbeats 8000000 in
set_option maxRecDepth 100000 in
theorem back_long (A B : Option Addr) (c d : Nat) (xs ys : List Sp) (s : ByteArray) (m : Int) (w : World) (hT : Tab w) (hm : w.cell? ⟨0, 0, none⟩ = some (.int .i64 m)) (h : 60 < xs.length ∨ 60 < ys.length ∨ 400 < s.size) :
    Calls Tryd.prog 3 #[.slice A xs.length c, .slice B ys.length d, .string s] w fun e w' => e = .returned (.bool true) ∧ Below w.heap.size w w' := by
  have HC := Lib.hid (awake_any m w hT hm)
  clear hT hm
  by_cases h1 : (60 : Int) < (xs.length : Int)
  · have g1 : decide ((60 : Int) < (xs.length : Int)) = true := decide_eq_true h1
    clear h
    go_enter Tryd.func3, Tryd.ntmps3
    go_wp2_with fail
    refine HC.out.mono ?_
    rintro e w1 ⟨rfl, hb1⟩
    go_wp2_with fail
    go_ret
    exact ⟨rfl, hb1⟩
  · have g1 : decide ((60 : Int) < (xs.length : Int)) = false := decide_eq_false h1
    by_cases h2 : (60 : Int) < (ys.length : Int)
    · have g2 : decide ((60 : Int) < (ys.length : Int)) = true := decide_eq_true h2
      clear h
      go_enter Tryd.func3, Tryd.ntmps3
      go_wp2_with fail
      refine HC.out.mono ?_
      rintro e w1 ⟨rfl, hb1⟩
      go_wp2_with fail
      go_ret
      exact ⟨rfl, hb1⟩
    · have g2 : decide ((60 : Int) < (ys.length : Int)) = false := decide_eq_false h2
      have h3 : (400 : Int) < (s.size : Int) := by omega
      have g3 : decide ((400 : Int) < (s.size : Int)) = true := decide_eq_true h3
      clear h
      go_enter Tryd.func3, Tryd.ntmps3
      go_wp2_with fail
      refine HC.out.mono ?_
      rintro e w1 ⟨rfl, hb1⟩
      go_wp2_with fail
      go_ret
      exact ⟨rfl, hb1⟩

set_option maxHeartbeats 16000000 in
set_option maxRecDepth 100000 in
theorem back_no (A B : Option Addr) (c d : Nat) (xs ys : List Sp) (s : ByteArray) (m : Int) (w : World) (hA : Spans w A xs) (hB : Spans w B ys) (hT : Tab w) (hm : w.cell? ⟨0, 0, none⟩ = some (.int .i64 m)) (h1 : xs.length ≤ 60) (h2 : ys.length ≤ 60) (h3 : s.size ≤ 400) (hM : ¬ May xs) :
    Calls Tryd.prog 3 #[.slice A xs.length c, .slice B ys.length d, .string s] w fun e w' => e = .returned (.bool true) ∧ Below w.heap.size w w' := by
  have HX0 := Lib.hid (Ctx.start hT hm)
  have HA := Lib.hid hA
  have HB := Lib.hid hB
  have g1 : ¬ (60 : Int) < (xs.length : Int) := by omega
  have g2 : ¬ (60 : Int) < (ys.length : Int) := by omega
  have g3 : ¬ (400 : Int) < (s.size : Int) := by omega
  have d1 : decide ((60 : Int) < (xs.length : Int)) = false := decide_eq_false g1
  have d2 : decide ((60 : Int) < (ys.length : Int)) = false := decide_eq_false g2
  have d3 : decide ((400 : Int) < (s.size : Int)) = false := decide_eq_false g3
  clear hA hB hT hm
  have hmx := mayB_no.2 hM
  have HW : Hid (writeR xs = []) := by show _ = _; unfold writeR; rw [hmx]; rfl
  have q0 := empty_yes (r := ([] : Bytes)) rfl
  have q1 := empty_yes2 (r := ([] : Bytes)) rfl
  clear hM
  go_enter Tryd.func3, Tryd.ntmps3
  go_wp2_with fail
  refine (may_any A c xs _ (HA.out.below HX0.out.below) (by omega)).mono ?_
  rw [hmx]
  rintro e w1 ⟨rfl, hb1⟩
  have HX1 := Lib.hid (HX0.out.on hb1)
  clear hb1 HX0
  go_wp2_with fail
  refine (write_any A c xs _ HX1.out.tab (HA.out.below HX1.out.below) (by omega)).mono ?_
  rw [HW.out]
  rintro e w2 ⟨rfl, hb2⟩
  have HX2 := Lib.hid (HX1.out.on hb2)
  clear hb2 HX1
  rcases Go.Proofs.Rng.parse_any s.data.toList with ⟨l, hp, hml⟩ | ⟨q, hp, hq⟩
  · have HP := Lib.hid hp
    have hlc : l.length ≤ 900000 := by have := hml.count; omega
    have hwl := write_size hml
    have hmb := (mayB_iff l).2 hml
    have HPW : Hid (parseR (bs (writeR l)).data.toList = (l, 0, 0)) := parse_write hml
    clear hp hml
    go_wp2_with fail
    refine (parse_ok s l m _ (by omega) HX2.out.len HP.out).mono ?_
    rintro e w3 ⟨S3, c3, rfl, hS3, hb3⟩
    have HX3 := Lib.hid (HX2.out.on hb3)
    have HSL := Lib.hid hS3
    have HZ3 := Lib.hid (Below.refl w3.heap.size w3)
    clear hS3
    clear hb3 HX2
    go_wp2_with fail
    refine (write_any S3 c3 l _ HX3.out.tab (HSL.out.below HZ3.out) hlc).mono ?_
    rintro e w4 ⟨rfl, hb4⟩
    have HX4 := Lib.hid (HX3.out.on hb4)
    have HZ4 := Lib.hid (bt HZ3.out hb4)
    clear HZ3 hb4 HX3
    go_wp2_with fail
    refine (parse_ok (bs (writeR l)) l m _ hwl HX4.out.len HPW.out).mono ?_
    rintro e w5 ⟨T5, e5, rfl, hT5, hb5⟩
    have HX5 := Lib.hid (HX4.out.on hb5)
    have HTL := Lib.hid hT5
    have HV5 := Lib.hid (Below.refl w5.heap.size w5)
    clear hT5
    have HZ5 := Lib.hid (bt HZ4.out hb5)
    clear HZ4 hb5 HX4
    go_wp2_with fail
    refine (may_any S3 c3 l _ (HSL.out.below HZ5.out) (by omega)).mono ?_
    rw [hmb]
    rintro e w6 ⟨rfl, hb6⟩
    have HX6 := Lib.hid (HX5.out.on hb6)
    have HTL2 := Lib.hid (HTL.out.below hb6)
    clear HTL HV5
    have HZ6 := Lib.hid (bt HZ5.out hb6)
    clear HZ5 hb6 HX5
    go_wp2_with fail
    refine (same_any T5 S3 e5 c3 l l _ HTL2.out (HSL.out.below HZ6.out) (by omega)).mono ?_
    rw [same_self]
    rintro e w7 ⟨rfl, hb7⟩
    have HX7 := Lib.hid (HX6.out.on hb7)
    have HZ7 := Lib.hid (bt HZ6.out hb7)
    clear HZ6 hb7 HX6
    go_wp2_with fail
    refine (awake_any m _ HX7.out.tab HX7.out.len).mono ?_
    rintro e w8 ⟨rfl, hb8⟩
    have HX8 := Lib.hid (HX7.out.on hb8)
    have HZ8 := Lib.hid (bt HZ7.out hb8)
    clear HZ7 hb8 HX7
    go_wp2_with fail
    go_ret
    exact ⟨rfl, HX8.out.below⟩
  · have HP := Lib.hid hp
    have q1 : (0 : Int) ≤ (q : Int) := by omega
    have q2 : (q : Int) ≤ (s.size : Int) := by rw [size_list] at hq; omega
    have q3 : decide ((0 : Int) ≤ (q : Int)) = true := decide_eq_true q1
    have q4 : decide ((q : Int) ≤ (s.size : Int)) = true := decide_eq_true q2
    clear hp hq
    go_wp2_with fail
    refine (parse_no s q m _ (by omega) HX2.out.len HP.out).mono ?_
    rintro e w3 ⟨S3, c3, rfl, hb3⟩
    have HX3 := Lib.hid (HX2.out.on hb3)
    clear hb3 HX2
    go_wp2_with fail
    refine (awake_any m _ HX3.out.tab HX3.out.len).mono ?_
    rintro e w4 ⟨rfl, hb4⟩
    have HX4 := Lib.hid (HX3.out.on hb4)
    clear hb4 HX3
    go_wp2_with fail
    go_ret
    exact ⟨rfl, HX4.out.below⟩

set_option maxHeartbeats 16000000 in
set_option maxRecDepth 100000 in
theorem back_one (A B : Option Addr) (c d : Nat) (xs ys : List Sp) (s : ByteArray) (m : Int) (w : World) (hA : Spans w A xs) (hB : Spans w B ys) (hT : Tab w) (hm : w.cell? ⟨0, 0, none⟩ = some (.int .i64 m)) (h1 : xs.length ≤ 60) (h2 : ys.length ≤ 60) (h3 : s.size ≤ 400) (hM : May xs) (hO : ¬ May ys) :
    Calls Tryd.prog 3 #[.slice A xs.length c, .slice B ys.length d, .string s] w fun e w' => e = .returned (.bool true) ∧ Below w.heap.size w w' := by
  have HX0 := Lib.hid (Ctx.start hT hm)
  have HA := Lib.hid hA
  have HB := Lib.hid hB
  have g1 : ¬ (60 : Int) < (xs.length : Int) := by omega
  have g2 : ¬ (60 : Int) < (ys.length : Int) := by omega
  have g3 : ¬ (400 : Int) < (s.size : Int) := by omega
  have d1 : decide ((60 : Int) < (xs.length : Int)) = false := decide_eq_false g1
  have d2 : decide ((60 : Int) < (ys.length : Int)) = false := decide_eq_false g2
  have d3 : decide ((400 : Int) < (s.size : Int)) = false := decide_eq_false g3
  clear hA hB hT hm
  have hmx := (mayB_iff xs).2 hM
  have hwx := write_size hM
  have HRX : Hid (parseR (bs (writeR xs)).data.toList = (xs, 0, 0)) := parse_write hM
  have hmy := mayB_no.2 hO
  clear hM hO
  go_enter Tryd.func3, Tryd.ntmps3
  go_wp2_with fail
  refine (may_any A c xs _ (HA.out.below HX0.out.below) (by omega)).mono ?_
  rw [hmx]
  rintro e w1 ⟨rfl, hb1⟩
  have HX1 := Lib.hid (HX0.out.on hb1)
  clear hb1 HX0
  go_wp2_with fail
  refine (write_any A c xs _ HX1.out.tab (HA.out.below HX1.out.below) (by omega)).mono ?_
  rintro e w2 ⟨rfl, hb2⟩
  have HX2 := Lib.hid (HX1.out.on hb2)
  clear hb2 HX1
  go_wp2_with fail
  refine (parse_ok (bs (writeR xs)) xs m _ hwx HX2.out.len HRX.out).mono ?_
  rintro e w3 ⟨S3, c3, rfl, hS3, hb3⟩
  have HX3 := Lib.hid (HX2.out.on hb3)
  have HSX := Lib.hid hS3
  clear hS3
  clear hb3 HX2
  go_wp2_with fail
  refine (same_any S3 A c3 c xs xs _ HSX.out (HA.out.below HX3.out.below) (by omega)).mono ?_
  rw [same_self]
  rintro e w4 ⟨rfl, hb4⟩
  have HX4 := Lib.hid (HX3.out.on hb4)
  clear HSX
  clear hb4 HX3
  go_wp2_with fail
  refine (may_any B d ys _ (HB.out.below HX4.out.below) (by omega)).mono ?_
  rw [hmy]
  rintro e w5 ⟨rfl, hb5⟩
  have HX5 := Lib.hid (HX4.out.on hb5)
  clear hb5 HX4
  rcases Go.Proofs.Rng.parse_any s.data.toList with ⟨l, hp, hml⟩ | ⟨q, hp, hq⟩
  · have HP := Lib.hid hp
    have hlc : l.length ≤ 900000 := by have := hml.count; omega
    have hwl := write_size hml
    have hmb := (mayB_iff l).2 hml
    have HPW : Hid (parseR (bs (writeR l)).data.toList = (l, 0, 0)) := parse_write hml
    clear hp hml
    go_wp2_with fail
    refine (parse_ok s l m _ (by omega) HX5.out.len HP.out).mono ?_
    rintro e w6 ⟨S6, c6, rfl, hS6, hb6⟩
    have HX6 := Lib.hid (HX5.out.on hb6)
    have HSL := Lib.hid hS6
    have HZ6 := Lib.hid (Below.refl w6.heap.size w6)
    clear hS6
    clear hb6 HX5
    go_wp2_with fail
    refine (write_any S6 c6 l _ HX6.out.tab (HSL.out.below HZ6.out) hlc).mono ?_
    rintro e w7 ⟨rfl, hb7⟩
    have HX7 := Lib.hid (HX6.out.on hb7)
    have HZ7 := Lib.hid (bt HZ6.out hb7)
    clear HZ6 hb7 HX6
    go_wp2_with fail
    refine (parse_ok (bs (writeR l)) l m _ hwl HX7.out.len HPW.out).mono ?_
    rintro e w8 ⟨T8, e8, rfl, hT8, hb8⟩
    have HX8 := Lib.hid (HX7.out.on hb8)
    have HTL := Lib.hid hT8
    have HV8 := Lib.hid (Below.refl w8.heap.size w8)
    clear hT8
    have HZ8 := Lib.hid (bt HZ7.out hb8)
    clear HZ7 hb8 HX7
    go_wp2_with fail
    refine (may_any S6 c6 l _ (HSL.out.below HZ8.out) (by omega)).mono ?_
    rw [hmb]
    rintro e w9 ⟨rfl, hb9⟩
    have HX9 := Lib.hid (HX8.out.on hb9)
    have HTL2 := Lib.hid (HTL.out.below hb9)
    clear HTL HV8
    have HZ9 := Lib.hid (bt HZ8.out hb9)
    clear HZ8 hb9 HX8
    go_wp2_with fail
    refine (same_any T8 S6 e8 c6 l l _ HTL2.out (HSL.out.below HZ9.out) (by omega)).mono ?_
    rw [same_self]
    rintro e w10 ⟨rfl, hb10⟩
    have HX10 := Lib.hid (HX9.out.on hb10)
    have HZ10 := Lib.hid (bt HZ9.out hb10)
    clear HZ9 hb10 HX9
    go_wp2_with fail
    refine (awake_any m _ HX10.out.tab HX10.out.len).mono ?_
    rintro e w11 ⟨rfl, hb11⟩
    have HX11 := Lib.hid (HX10.out.on hb11)
    have HZ11 := Lib.hid (bt HZ10.out hb11)
    clear HZ10 hb11 HX10
    go_wp2_with fail
    go_ret
    exact ⟨rfl, HX11.out.below⟩
  · have HP := Lib.hid hp
    have q1 : (0 : Int) ≤ (q : Int) := by omega
    have q2 : (q : Int) ≤ (s.size : Int) := by rw [size_list] at hq; omega
    have q3 : decide ((0 : Int) ≤ (q : Int)) = true := decide_eq_true q1
    have q4 : decide ((q : Int) ≤ (s.size : Int)) = true := decide_eq_true q2
    clear hp hq
    go_wp2_with fail
    refine (parse_no s q m _ (by omega) HX5.out.len HP.out).mono ?_
    rintro e w6 ⟨S6, c6, rfl, hb6⟩
    have HX6 := Lib.hid (HX5.out.on hb6)
    clear hb6 HX5
    go_wp2_with fail
    refine (awake_any m _ HX6.out.tab HX6.out.len).mono ?_
    rintro e w7 ⟨rfl, hb7⟩
    have HX7 := Lib.hid (HX6.out.on hb7)
    clear hb7 HX6
    go_wp2_with fail
    go_ret
    exact ⟨rfl, HX7.out.below⟩

set_option maxHeartbeats 16000000 in
set_option maxRecDepth 100000 in
theorem back_same (A B : Option Addr) (c d : Nat) (xs ys : List Sp) (s : ByteArray) (m : Int) (w : World) (hA : Spans w A xs) (hB : Spans w B ys) (hT : Tab w) (hm : w.cell? ⟨0, 0, none⟩ = some (.int .i64 m)) (h1 : xs.length ≤ 60) (h2 : ys.length ≤ 60) (h3 : s.size ≤ 400) (hM : May xs) (hO : May ys) (he : xs = ys) :
    Calls Tryd.prog 3 #[.slice A xs.length c, .slice B ys.length d, .string s] w fun e w' => e = .returned (.bool true) ∧ Below w.heap.size w w' := by
  have HX0 := Lib.hid (Ctx.start hT hm)
  have HA := Lib.hid hA
  have HB := Lib.hid hB
  have g1 : ¬ (60 : Int) < (xs.length : Int) := by omega
  have g2 : ¬ (60 : Int) < (ys.length : Int) := by omega
  have g3 : ¬ (400 : Int) < (s.size : Int) := by omega
  have d1 : decide ((60 : Int) < (xs.length : Int)) = false := decide_eq_false g1
  have d2 : decide ((60 : Int) < (ys.length : Int)) = false := decide_eq_false g2
  have d3 : decide ((400 : Int) < (s.size : Int)) = false := decide_eq_false g3
  clear hA hB hT hm
  have hmx := (mayB_iff xs).2 hM
  have hwx := write_size hM
  have HRX : Hid (parseR (bs (writeR xs)).data.toList = (xs, 0, 0)) := parse_write hM
  have hmy := (mayB_iff ys).2 hO
  have t1 := text_eq (a := writeR xs) (b := writeR ys) (by rw [he])
  have HSB : Hid (sameB xs ys = true) := by show _ = _; rw [he, same_self]
  clear hM hO he
  go_enter Tryd.func3, Tryd.ntmps3
  go_wp2_with fail
  refine (may_any A c xs _ (HA.out.below HX0.out.below) (by omega)).mono ?_
  rw [hmx]
  rintro e w1 ⟨rfl, hb1⟩
  have HX1 := Lib.hid (HX0.out.on hb1)
  clear hb1 HX0
  go_wp2_with fail
  refine (write_any A c xs _ HX1.out.tab (HA.out.below HX1.out.below) (by omega)).mono ?_
  rintro e w2 ⟨rfl, hb2⟩
  have HX2 := Lib.hid (HX1.out.on hb2)
  clear hb2 HX1
  go_wp2_with fail
  refine (parse_ok (bs (writeR xs)) xs m _ hwx HX2.out.len HRX.out).mono ?_
  rintro e w3 ⟨S3, c3, rfl, hS3, hb3⟩
  have HX3 := Lib.hid (HX2.out.on hb3)
  have HSX := Lib.hid hS3
  clear hS3
  clear hb3 HX2
  go_wp2_with fail
  refine (same_any S3 A c3 c xs xs _ HSX.out (HA.out.below HX3.out.below) (by omega)).mono ?_
  rw [same_self]
  rintro e w4 ⟨rfl, hb4⟩
  have HX4 := Lib.hid (HX3.out.on hb4)
  clear HSX
  clear hb4 HX3
  go_wp2_with fail
  refine (may_any B d ys _ (HB.out.below HX4.out.below) (by omega)).mono ?_
  rw [hmy]
  rintro e w5 ⟨rfl, hb5⟩
  have HX5 := Lib.hid (HX4.out.on hb5)
  clear hb5 HX4
  go_wp2_with fail
  refine (write_any A c xs _ HX5.out.tab (HA.out.below HX5.out.below) (by omega)).mono ?_
  rintro e w6 ⟨rfl, hb6⟩
  have HX6 := Lib.hid (HX5.out.on hb6)
  clear hb6 HX5
  go_wp2_with fail
  refine (write_any B d ys _ HX6.out.tab (HB.out.below HX6.out.below) (by omega)).mono ?_
  rintro e w7 ⟨rfl, hb7⟩
  have HX7 := Lib.hid (HX6.out.on hb7)
  clear hb7 HX6
  go_wp2_with fail
  refine (same_any A B c d xs ys _ (HA.out.below HX7.out.below) (HB.out.below HX7.out.below) (by omega)).mono ?_
  rw [HSB.out]
  rintro e w8 ⟨rfl, hb8⟩
  have HX8 := Lib.hid (HX7.out.on hb8)
  clear hb8 HX7
  rcases Go.Proofs.Rng.parse_any s.data.toList with ⟨l, hp, hml⟩ | ⟨q, hp, hq⟩
  · have HP := Lib.hid hp
    have hlc : l.length ≤ 900000 := by have := hml.count; omega
    have hwl := write_size hml
    have hmb := (mayB_iff l).2 hml
    have HPW : Hid (parseR (bs (writeR l)).data.toList = (l, 0, 0)) := parse_write hml
    clear hp hml
    go_wp2_with fail
    refine (parse_ok s l m _ (by omega) HX8.out.len HP.out).mono ?_
    rintro e w9 ⟨S9, c9, rfl, hS9, hb9⟩
    have HX9 := Lib.hid (HX8.out.on hb9)
    have HSL := Lib.hid hS9
    have HZ9 := Lib.hid (Below.refl w9.heap.size w9)
    clear hS9
    clear hb9 HX8
    go_wp2_with fail
    refine (write_any S9 c9 l _ HX9.out.tab (HSL.out.below HZ9.out) hlc).mono ?_
    rintro e w10 ⟨rfl, hb10⟩
    have HX10 := Lib.hid (HX9.out.on hb10)
    have HZ10 := Lib.hid (bt HZ9.out hb10)
    clear HZ9 hb10 HX9
    go_wp2_with fail
    refine (parse_ok (bs (writeR l)) l m _ hwl HX10.out.len HPW.out).mono ?_
    rintro e w11 ⟨T11, e11, rfl, hT11, hb11⟩
    have HX11 := Lib.hid (HX10.out.on hb11)
    have HTL := Lib.hid hT11
    have HV11 := Lib.hid (Below.refl w11.heap.size w11)
    clear hT11
    have HZ11 := Lib.hid (bt HZ10.out hb11)
    clear HZ10 hb11 HX10
    go_wp2_with fail
    refine (may_any S9 c9 l _ (HSL.out.below HZ11.out) (by omega)).mono ?_
    rw [hmb]
    rintro e w12 ⟨rfl, hb12⟩
    have HX12 := Lib.hid (HX11.out.on hb12)
    have HTL2 := Lib.hid (HTL.out.below hb12)
    clear HTL HV11
    have HZ12 := Lib.hid (bt HZ11.out hb12)
    clear HZ11 hb12 HX11
    go_wp2_with fail
    refine (same_any T11 S9 e11 c9 l l _ HTL2.out (HSL.out.below HZ12.out) (by omega)).mono ?_
    rw [same_self]
    rintro e w13 ⟨rfl, hb13⟩
    have HX13 := Lib.hid (HX12.out.on hb13)
    have HZ13 := Lib.hid (bt HZ12.out hb13)
    clear HZ12 hb13 HX12
    go_wp2_with fail
    refine (awake_any m _ HX13.out.tab HX13.out.len).mono ?_
    rintro e w14 ⟨rfl, hb14⟩
    have HX14 := Lib.hid (HX13.out.on hb14)
    have HZ14 := Lib.hid (bt HZ13.out hb14)
    clear HZ13 hb14 HX13
    go_wp2_with fail
    go_ret
    exact ⟨rfl, HX14.out.below⟩
  · have HP := Lib.hid hp
    have q1 : (0 : Int) ≤ (q : Int) := by omega
    have q2 : (q : Int) ≤ (s.size : Int) := by rw [size_list] at hq; omega
    have q3 : decide ((0 : Int) ≤ (q : Int)) = true := decide_eq_true q1
    have q4 : decide ((q : Int) ≤ (s.size : Int)) = true := decide_eq_true q2
    clear hp hq
    go_wp2_with fail
    refine (parse_no s q m _ (by omega) HX8.out.len HP.out).mono ?_
    rintro e w9 ⟨S9, c9, rfl, hb9⟩
    have HX9 := Lib.hid (HX8.out.on hb9)
    clear hb9 HX8
    go_wp2_with fail
    refine (awake_any m _ HX9.out.tab HX9.out.len).mono ?_
    rintro e w10 ⟨rfl, hb10⟩
    have HX10 := Lib.hid (HX9.out.on hb10)
    clear hb10 HX9
    go_wp2_with fail
    go_ret
    exact ⟨rfl, HX10.out.below⟩

set_option maxHeartbeats 16000000 in
set_option maxRecDepth 100000 in
theorem back_other (A B : Option Addr) (c d : Nat) (xs ys : List Sp) (s : ByteArray) (m : Int) (w : World) (hA : Spans w A xs) (hB : Spans w B ys) (hT : Tab w) (hm : w.cell? ⟨0, 0, none⟩ = some (.int .i64 m)) (h1 : xs.length ≤ 60) (h2 : ys.length ≤ 60) (h3 : s.size ≤ 400) (hM : May xs) (hO : May ys) (he : xs ≠ ys) :
    Calls Tryd.prog 3 #[.slice A xs.length c, .slice B ys.length d, .string s] w fun e w' => e = .returned (.bool true) ∧ Below w.heap.size w w' := by
  have HX0 := Lib.hid (Ctx.start hT hm)
  have HA := Lib.hid hA
  have HB := Lib.hid hB
  have g1 : ¬ (60 : Int) < (xs.length : Int) := by omega
  have g2 : ¬ (60 : Int) < (ys.length : Int) := by omega
  have g3 : ¬ (400 : Int) < (s.size : Int) := by omega
  have d1 : decide ((60 : Int) < (xs.length : Int)) = false := decide_eq_false g1
  have d2 : decide ((60 : Int) < (ys.length : Int)) = false := decide_eq_false g2
  have d3 : decide ((400 : Int) < (s.size : Int)) = false := decide_eq_false g3
  clear hA hB hT hm
  have hmx := (mayB_iff xs).2 hM
  have hwx := write_size hM
  have HRX : Hid (parseR (bs (writeR xs)).data.toList = (xs, 0, 0)) := parse_write hM
  have hmy := (mayB_iff ys).2 hO
  have t1 := text_ne (a := writeR xs) (b := writeR ys) (fun e => he (write_inj hM hO e))
  have HSB : Hid (sameB xs ys = false) := by show _ = _; unfold sameB; simpa using he
  clear hM hO he
  go_enter Tryd.func3, Tryd.ntmps3
  go_wp2_with fail
  refine (may_any A c xs _ (HA.out.below HX0.out.below) (by omega)).mono ?_
  rw [hmx]
  rintro e w1 ⟨rfl, hb1⟩
  have HX1 := Lib.hid (HX0.out.on hb1)
  clear hb1 HX0
  go_wp2_with fail
  refine (write_any A c xs _ HX1.out.tab (HA.out.below HX1.out.below) (by omega)).mono ?_
  rintro e w2 ⟨rfl, hb2⟩
  have HX2 := Lib.hid (HX1.out.on hb2)
  clear hb2 HX1
  go_wp2_with fail
  refine (parse_ok (bs (writeR xs)) xs m _ hwx HX2.out.len HRX.out).mono ?_
  rintro e w3 ⟨S3, c3, rfl, hS3, hb3⟩
  have HX3 := Lib.hid (HX2.out.on hb3)
  have HSX := Lib.hid hS3
  clear hS3
  clear hb3 HX2
  go_wp2_with fail
  refine (same_any S3 A c3 c xs xs _ HSX.out (HA.out.below HX3.out.below) (by omega)).mono ?_
  rw [same_self]
  rintro e w4 ⟨rfl, hb4⟩
  have HX4 := Lib.hid (HX3.out.on hb4)
  clear HSX
  clear hb4 HX3
  go_wp2_with fail
  refine (may_any B d ys _ (HB.out.below HX4.out.below) (by omega)).mono ?_
  rw [hmy]
  rintro e w5 ⟨rfl, hb5⟩
  have HX5 := Lib.hid (HX4.out.on hb5)
  clear hb5 HX4
  go_wp2_with fail
  refine (write_any A c xs _ HX5.out.tab (HA.out.below HX5.out.below) (by omega)).mono ?_
  rintro e w6 ⟨rfl, hb6⟩
  have HX6 := Lib.hid (HX5.out.on hb6)
  clear hb6 HX5
  go_wp2_with fail
  refine (write_any B d ys _ HX6.out.tab (HB.out.below HX6.out.below) (by omega)).mono ?_
  rintro e w7 ⟨rfl, hb7⟩
  have HX7 := Lib.hid (HX6.out.on hb7)
  clear hb7 HX6
  go_wp2_with fail
  refine (same_any A B c d xs ys _ (HA.out.below HX7.out.below) (HB.out.below HX7.out.below) (by omega)).mono ?_
  rw [HSB.out]
  rintro e w8 ⟨rfl, hb8⟩
  have HX8 := Lib.hid (HX7.out.on hb8)
  clear hb8 HX7
  rcases Go.Proofs.Rng.parse_any s.data.toList with ⟨l, hp, hml⟩ | ⟨q, hp, hq⟩
  · have HP := Lib.hid hp
    have hlc : l.length ≤ 900000 := by have := hml.count; omega
    have hwl := write_size hml
    have hmb := (mayB_iff l).2 hml
    have HPW : Hid (parseR (bs (writeR l)).data.toList = (l, 0, 0)) := parse_write hml
    clear hp hml
    go_wp2_with fail
    refine (parse_ok s l m _ (by omega) HX8.out.len HP.out).mono ?_
    rintro e w9 ⟨S9, c9, rfl, hS9, hb9⟩
    have HX9 := Lib.hid (HX8.out.on hb9)
    have HSL := Lib.hid hS9
    have HZ9 := Lib.hid (Below.refl w9.heap.size w9)
    clear hS9
    clear hb9 HX8
    go_wp2_with fail
    refine (write_any S9 c9 l _ HX9.out.tab (HSL.out.below HZ9.out) hlc).mono ?_
    rintro e w10 ⟨rfl, hb10⟩
    have HX10 := Lib.hid (HX9.out.on hb10)
    have HZ10 := Lib.hid (bt HZ9.out hb10)
    clear HZ9 hb10 HX9
    go_wp2_with fail
    refine (parse_ok (bs (writeR l)) l m _ hwl HX10.out.len HPW.out).mono ?_
    rintro e w11 ⟨T11, e11, rfl, hT11, hb11⟩
    have HX11 := Lib.hid (HX10.out.on hb11)
    have HTL := Lib.hid hT11
    have HV11 := Lib.hid (Below.refl w11.heap.size w11)
    clear hT11
    have HZ11 := Lib.hid (bt HZ10.out hb11)
    clear HZ10 hb11 HX10
    go_wp2_with fail
    refine (may_any S9 c9 l _ (HSL.out.below HZ11.out) (by omega)).mono ?_
    rw [hmb]
    rintro e w12 ⟨rfl, hb12⟩
    have HX12 := Lib.hid (HX11.out.on hb12)
    have HTL2 := Lib.hid (HTL.out.below hb12)
    clear HTL HV11
    have HZ12 := Lib.hid (bt HZ11.out hb12)
    clear HZ11 hb12 HX11
    go_wp2_with fail
    refine (same_any T11 S9 e11 c9 l l _ HTL2.out (HSL.out.below HZ12.out) (by omega)).mono ?_
    rw [same_self]
    rintro e w13 ⟨rfl, hb13⟩
    have HX13 := Lib.hid (HX12.out.on hb13)
    have HZ13 := Lib.hid (bt HZ12.out hb13)
    clear HZ12 hb13 HX12
    go_wp2_with fail
    refine (awake_any m _ HX13.out.tab HX13.out.len).mono ?_
    rintro e w14 ⟨rfl, hb14⟩
    have HX14 := Lib.hid (HX13.out.on hb14)
    have HZ14 := Lib.hid (bt HZ13.out hb14)
    clear HZ13 hb14 HX13
    go_wp2_with fail
    go_ret
    exact ⟨rfl, HX14.out.below⟩
  · have HP := Lib.hid hp
    have q1 : (0 : Int) ≤ (q : Int) := by omega
    have q2 : (q : Int) ≤ (s.size : Int) := by rw [size_list] at hq; omega
    have q3 : decide ((0 : Int) ≤ (q : Int)) = true := decide_eq_true q1
    have q4 : decide ((q : Int) ≤ (s.size : Int)) = true := decide_eq_true q2
    clear hp hq
    go_wp2_with fail
    refine (parse_no s q m _ (by omega) HX8.out.len HP.out).mono ?_
    rintro e w9 ⟨S9, c9, rfl, hb9⟩
    have HX9 := Lib.hid (HX8.out.on hb9)
    clear hb9 HX8
    go_wp2_with fail
    refine (awake_any m _ HX9.out.tab HX9.out.len).mono ?_
    rintro e w10 ⟨rfl, hb10⟩
    have HX10 := Lib.hid (HX9.out.on hb10)
    clear hb10 HX9
    go_wp2_with fail
    go_ret
    exact ⟨rfl, HX10.out.below⟩

theorem back_any (A B : Option Addr) (c d : Nat) (xs ys : List Sp) (s : ByteArray) (m : Int) (w : World) (hA : Spans w A xs) (hB : Spans w B ys) (hT : Tab w) (hm : w.cell? ⟨0, 0, none⟩ = some (.int .i64 m)) :
    Calls Tryd.prog 3 #[.slice A xs.length c, .slice B ys.length d, .string s] w fun e w' => e = .returned (.bool true) ∧ Below w.heap.size w w' := by
  by_cases h : 60 < xs.length ∨ 60 < ys.length ∨ 400 < s.size
  · exact back_long A B c d xs ys s m w hT hm h
  · by_cases hM : May xs
    · by_cases hO : May ys
      · by_cases he : xs = ys
        · exact back_same A B c d xs ys s m w hA hB hT hm (by omega) (by omega) (by omega) hM hO he
        · exact back_other A B c d xs ys s m w hA hB hT hm (by omega) (by omega) (by omega) hM hO he
      · exact back_one A B c d xs ys s m w hA hB hT hm (by omega) (by omega) (by omega) hM hO
    · exact back_no A B c d xs ys s m w hA hB hT hm (by omega) (by omega) (by omega) hM
end Go.Proofs.YtbbaaaomncegiaaDoor
