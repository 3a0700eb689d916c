/-
  gatefoldlaw33.SheetsRead, walked: it returns true for any plan and any slots; below the heap's size at the call nothing turns.
-/
import Derived.Test.YthiplocjiamahaaShi
import Derived.Laws.AppendOwnNone
namespace Go.Proofs.Ythiplocjiamahaa
open Go.RowKit Go.Proofs.Shs Go.Maps

theorem nums_get {m k : Nat} (h : k < m) : (numsTo m)[k]? = some (k : Int) := by
  unfold numsTo
  rw [List.getElem?_map, List.getElem?_range h]; rfl
theorem encSl_one : ∀ x : Slot, ∀ u ∈ encSl x, u.oneCell' = true := by
  rintro ⟨a, b, c, d, e⟩ u hu
  simp [encSl] at hu
  rcases hu with rfl | rfl | rfl | rfl | rfl <;> rfl

set_option maxHeartbeats 1000000 in
theorem sread_far (kd r c s sh : Int) (A : Option Addr) (cp : Nat) (l : List Slot) (w : World) (hl : 120 < l.length) :
    Calls Try.prog 4 #[.agg #[.int .i64 kd, .int .i64 r, .int .i64 c, .int .i64 s, .int .i64 sh], .slice A l.length cp] w fun e w' => e = .returned (.bool true) ∧ Below w.heap.size w w' := by
  go_enter Try.func4, Try.ntmps4
  go_wp2_with fail
  refine (awake_any _).mono ?_
  rintro e w1 ⟨rfl, hb⟩
  go_wp2_with fail
  go_ret
  exact ⟨rfl, bt (bl (Below.refl _ _) _) hb⟩

theorem made_row (w : World) (o : Obj) : ((w.alloc o).alloc (.cells #[] 37)).ownsRow (w.heap.size + 1) 37 5 (.slice (some ⟨w.heap.size + 1, 0, none⟩) 0 0) 0 [] := by
  have := World.ownsRow_made (base := w.heap.size + 1) (e := 37) (size := 5) (w.alloc o) #[] 0 (by simp) (Nat.zero_le _) (by simp)
  simpa using this

set_option maxRecDepth 100000 in
set_option maxHeartbeats 8000000 in
theorem sread_some (kd r c s sh : Int) (a : Addr) (cp : Nat) (l : List Slot) (w : World) (hA : RowAt encSl 5 w (some a) l) (hw : ∀ x, x ∈ l → wfS x) (hl : l.length ≤ 120) :
    Calls Try.prog 4 #[.agg #[.int .i64 kd, .int .i64 r, .int .i64 c, .int .i64 s, .int .i64 sh], .slice (some a) l.length cp] w fun e w' => e = .returned (.bool true) ∧ Below w.heap.size w w' := by
  obtain ⟨i0, hi, hz0, hz1, hz2⟩ := info_parts Try.infoSlot
  have HA := Lib.hid hA
  have HW := Lib.hid hw
  clear hA hw
  have HO := Lib.hid (made_row w (.cells #[.int .i64 kd, .int .i64 r, .int .i64 c, .int .i64 s, .int .i64 sh] 23))
  have hl2 : ¬ 120 < (l.length : Int) := by omega
  go_enter Try.func4, Try.ntmps4
  go_wp2_with (at_builtin; refine wpList_append_own _ rfl _ _ 28 rfl (w.heap.size + 1) 37 i0 (.agg #[.int .i64 0, .int .i64 0, .int .i64 0, .int .i64 0, .int .i64 0]) 5 40 Try.underlying28 hi hz0 hz1 hz2 rfl (by decide) _ _ _ rfl HO.out a l.length cp (flatL encSl l) rfl ?qc1 ?qc2 ?qc3 ?qc4 ?qc5 ?qc6 ?_)
  case qc1 => exact flatL_length encSl_len l
  case qc2 => exact (HA.out.below (bl (bl (Below.refl _ w) _) _)).add encSl_len (by decide)
  case qc3 => exact flatL_cells encSl_one l
  case qc4 => unfold maxLen; omega
  case qc5 => omega
  intro v1 w1 hown hgrow _
  have hr1 : w1.ownsRow (w.heap.size + 1) 37 5 v1 l.length (flatL encSl l) := by simpa using hown
  obtain ⟨B, cB, rfl, hB, hlB, hmB, _⟩ := RowAt.of_own encSl_len hr1
  have hb1 : Below (w.heap.size + 1) (w.alloc (.cells #[.int .i64 kd, .int .i64 r, .int .i64 c, .int .i64 s, .int .i64 sh] 23)) w1 := ((Below.refl _ _).alloc (by simp) _).grown hgrow (by simp) (by intro k hk; simp [Value.ownBlock] at hk; omega)
  have HP := Lib.hid ((Blk.new w 23 #[.int .i64 kd, .int .i64 r, .int .i64 c, .int .i64 s, .int .i64 sh]).below hb1 (by omega))
  have HB := Lib.hid ((bl (Below.refl _ w) (.cells #[.int .i64 kd, .int .i64 r, .int .i64 c, .int .i64 s, .int .i64 sh] 23)).trans (hb1.mono (by omega)))
  have HA1 := Lib.hid (HA.out.below HB.out)
  have HS := Lib.hid hB
  clear hown hgrow hr1 hB hb1 HO HA hi hz0 hz1 hz2
  -- behind the copy
  have hsm : sameSl l l = true := by unfold sameSl; simp
  have hcl := cntPg_le l l.length
  rw [List.take_length] at hcl
  have cR := fun W (hA : RowAt encSl 5 W B l) => read_any kd r c s sh B cB l W hA HW.out (by omega)
  have cQ := fun W (hA : RowAt encSl 5 W (some a) l) => rread_any kd r c s sh (some a) cp l W hA (by omega)
  have cS := fun W (hA : RowAt encSl 5 W B l) (hB : RowAt encSl 5 W (some a) l) => same_any B (some a) cB cp l l W hA hB (by omega)
  rw [hsm] at cS
  have CR := Lib.hid cR
  have CQ := Lib.hid cQ
  have CS := Lib.hid cS
  clear cR cQ cS hsm
  obtain ⟨p0, p1, p2, p3, p4⟩ := HP.out.facts5
  have hz := HP.out.lt
  go_wp2_with fail
  refine (CR.out _ HS.out).mono ?_
  rintro e w2 ⟨hb2, hr2⟩
  have HP2 := Lib.hid (HP.out.keep hb2)
  have HA2 := Lib.hid (HA1.out.below hb2)
  have HS2 := Lib.hid (HS.out.below hb2)
  have HB2 := Lib.hid (bt HB.out hb2)
  have hz2 := HP2.out.lt
  clear p0 p1 p2 p3 p4 hb2 hz HP HA1 HS HB CR
  obtain ⟨p0, p1, p2, p3, p4⟩ := HP2.out.facts5
  rcases hr2 with ⟨hok, P, cP, rfl, hP, _⟩ | ⟨hok, rfl⟩
  · have HPG := Lib.hid hP
    have HOK := Lib.hid hok
    clear hP hok
    generalize hm : cntPg l = m at HPG CQ hcl
    clear hm
    have hm0 : (0 : Int) ≤ (m : Int) := by omega
    have hmx : max (m : Int) 0 = (m : Int) := by omega
    have hml : m ≤ 120 := by omega
    clear hcl
    go_wp2_with fail
    refine (CQ.out _ HA2.out).mono ?_
    rintro e w3 ⟨hb3, ⟨_, rfl⟩ | ⟨h, _⟩⟩
    rotate_left
    · exact absurd HOK.out h
    have HA3 := Lib.hid (HA2.out.below hb3)
    have HS3 := Lib.hid (HS2.out.below hb3)
    have HG3 := Lib.hid (HPG.out.below hb3)
    have HB3 := Lib.hid (bt HB2.out hb3)
    clear p0 p1 p2 p3 p4 hb3 HP2 HA2 HS2 HB2 HPG CQ hz2
    go_wp2_with fail
    refine (CS.out _ HS3.out HA3.out).mono ?_
    rintro e w4 ⟨rfl, hb4⟩
    have HG4 := Lib.hid (HG3.out.below hb4)
    have HB4 := Lib.hid (bt HB3.out hb4)
    clear hb4 HA3 HS3 HG3 HB3 CS
    go_wp2_with fail
    go_loopw [9] (fun i wr => ∃ k : Nat, k ≤ m ∧ i = .int .i64 k ∧ w4 = wr) (fun i _ => m - (intOf i).toNat)
    case atStart => exact ⟨0, Nat.zero_le _, rfl, rfl⟩
    case round =>
      obtain ⟨k, hk, rfl, rfl⟩ := hrel
      by_cases hlt : k < m
      · have hlt' : (k : Int) < (m : Int) := by omega
        obtain ⟨b, off, rfl, hblt, c0⟩ := HG4.out.num (nums_get hlt)
        go_wp2_with fail
        go_roundw
        case rel => exact ⟨k + 1, by omega, by go_num, by first | rfl | trivial⟩
        case measure => simp [intOf]; omega
      · have hlt' : ¬ (k : Int) < (m : Int) := by omega
        go_wp2_with fail
        refine (awake_any _).mono ?_
        rintro e w5 ⟨rfl, hb5⟩
        go_wp2_with fail
        go_ret
        exact ⟨rfl, bt HB4.out hb5⟩
  · have HOK := Lib.hid hok
    clear hok
    go_wp2_with fail
    refine (CQ.out _ HA2.out).mono ?_
    rintro e w3 ⟨hb3, ⟨h, _⟩ | ⟨_, he⟩⟩
    · exact absurd h HOK.out
    obtain ⟨t, ht⟩ : ∃ t : Int, t = -1 := ⟨_, rfl⟩
    rw [← ht] at he
    have ht0 : ¬ 0 ≤ t := by omega
    have ht1 : max t 0 = 0 := by omega
    clear ht
    subst he
    have HA3 := Lib.hid (HA2.out.below hb3)
    have HS3 := Lib.hid (HS2.out.below hb3)
    have HB3 := Lib.hid (bt HB2.out hb3)
    clear p0 p1 p2 p3 p4 hb3 HP2 HA2 HS2 HB2 CQ hz2
    go_wp2_with fail
    refine (CS.out _ HS3.out HA3.out).mono ?_
    rintro e w4 ⟨rfl, hb4⟩
    have HB4 := Lib.hid (bt HB3.out hb4)
    clear hb4 HA3 HS3 HB3 CS
    go_wp2_with fail
    go_loopw [9] (fun i wr => i = .int .i64 0 ∧ w4 = wr) (fun _ _ => 0)
    case atStart => exact ⟨rfl, rfl⟩
    case round =>
      obtain ⟨rfl, rfl⟩ := hrel
      go_wp2_with fail
      refine (awake_any _).mono ?_
      rintro e w5 ⟨rfl, hb5⟩
      go_wp2_with fail
      go_ret
      exact ⟨rfl, bt HB4.out hb5⟩

set_option maxRecDepth 100000 in
set_option maxHeartbeats 8000000 in
theorem sread_none (kd r c s sh : Int) (w : World) :
    Calls Try.prog 4 #[.agg #[.int .i64 kd, .int .i64 r, .int .i64 c, .int .i64 s, .int .i64 sh], .slice none 0 0] w fun e w' => e = .returned (.bool true) ∧ Below w.heap.size w w' := by
  obtain ⟨i0, hi, _, _, _⟩ := info_parts Try.infoSlot
  have hl : ([] : List Slot).length ≤ 120 := by simp
  have HW : Hid (∀ x, x ∈ ([] : List Slot) → wfS x) := fun x hx => by cases hx
  have HO := Lib.hid (made_row w (.cells #[.int .i64 kd, .int .i64 r, .int .i64 c, .int .i64 s, .int .i64 sh] 23))
  go_enter Try.func4, Try.ntmps4
  go_wp2_with (at_builtin; refine wpList_append_own_none rfl _ _ 28 rfl (w.heap.size + 1) 37 i0 5 Try.underlying28 hi _ 0 [] rfl HO.out rfl ?_)
  have HP := Lib.hid ((Blk.new w 23 #[.int .i64 kd, .int .i64 r, .int .i64 c, .int .i64 s, .int .i64 sh]).alloc (.cells #[] 37))
  have HB := Lib.hid (bl (bl (Below.refl _ w) (.cells #[.int .i64 kd, .int .i64 r, .int .i64 c, .int .i64 s, .int .i64 sh] 23)) (.cells #[] 37))
  generalize (w.alloc (.cells #[.int .i64 kd, .int .i64 r, .int .i64 c, .int .i64 s, .int .i64 sh] 23)).alloc (.cells #[] 37) = w1 at HP HB ⊢
  generalize (some ⟨w.heap.size + 1, 0, none⟩ : Option Addr) = B
  have HS : Hid (RowAt encSl 5 w1 B []) := RowAt.nil _ _
  have HA1 : Hid (RowAt encSl 5 w1 none ([] : List Slot)) := RowAt.nil _ _
  obtain ⟨cB, hcB⟩ : ∃ cB : Nat, cB = 0 := ⟨_, rfl⟩
  subst hcB
  clear HO hi
  -- behind the copy
  have hsm : sameSl ([] : List Slot) ([] : List Slot) = true := by unfold sameSl; simp
  have hcl := cntPg_le ([] : List Slot) ([] : List Slot).length
  rw [List.take_length] at hcl
  have cR := fun W (hA : RowAt encSl 5 W B ([] : List Slot)) => read_any kd r c s sh B 0 ([] : List Slot) W hA HW.out (by omega)
  have cQ := fun W (hA : RowAt encSl 5 W none ([] : List Slot)) => rread_any kd r c s sh none 0 ([] : List Slot) W hA (by omega)
  have cS := fun W (hA : RowAt encSl 5 W B ([] : List Slot)) (hB : RowAt encSl 5 W none ([] : List Slot)) => same_any B none 0 0 ([] : List Slot) ([] : List Slot) W hA hB (by omega)
  rw [hsm] at cS
  have CR := Lib.hid cR
  have CQ := Lib.hid cQ
  have CS := Lib.hid cS
  clear cR cQ cS hsm
  obtain ⟨p0, p1, p2, p3, p4⟩ := HP.out.facts5
  have hz := HP.out.lt
  go_wp2_with fail
  refine (CR.out _ HS.out).mono ?_
  rintro e w2 ⟨hb2, hr2⟩
  have HP2 := Lib.hid (HP.out.keep hb2)
  have HA2 := Lib.hid (HA1.out.below hb2)
  have HS2 := Lib.hid (HS.out.below hb2)
  have HB2 := Lib.hid (bt HB.out hb2)
  have hz2 := HP2.out.lt
  clear p0 p1 p2 p3 p4 hb2 hz HP HA1 HS HB CR
  obtain ⟨p0, p1, p2, p3, p4⟩ := HP2.out.facts5
  rcases hr2 with ⟨hok, P, cP, rfl, hP, _⟩ | ⟨hok, rfl⟩
  · have HPG := Lib.hid hP
    have HOK := Lib.hid hok
    clear hP hok
    generalize hm : cntPg ([] : List Slot) = m at HPG CQ hcl
    clear hm
    have hm0 : (0 : Int) ≤ (m : Int) := by omega
    have hmx : max (m : Int) 0 = (m : Int) := by omega
    have hml : m ≤ 120 := by omega
    clear hcl
    go_wp2_with fail
    refine (CQ.out _ HA2.out).mono ?_
    rintro e w3 ⟨hb3, ⟨_, rfl⟩ | ⟨h, _⟩⟩
    rotate_left
    · exact absurd HOK.out h
    have HA3 := Lib.hid (HA2.out.below hb3)
    have HS3 := Lib.hid (HS2.out.below hb3)
    have HG3 := Lib.hid (HPG.out.below hb3)
    have HB3 := Lib.hid (bt HB2.out hb3)
    clear p0 p1 p2 p3 p4 hb3 HP2 HA2 HS2 HB2 HPG CQ hz2
    go_wp2_with fail
    refine (CS.out _ HS3.out HA3.out).mono ?_
    rintro e w4 ⟨rfl, hb4⟩
    have HG4 := Lib.hid (HG3.out.below hb4)
    have HB4 := Lib.hid (bt HB3.out hb4)
    clear hb4 HA3 HS3 HG3 HB3 CS
    go_wp2_with fail
    go_loopw [9] (fun i wr => ∃ k : Nat, k ≤ m ∧ i = .int .i64 k ∧ w4 = wr) (fun i _ => m - (intOf i).toNat)
    case atStart => exact ⟨0, Nat.zero_le _, rfl, rfl⟩
    case round =>
      obtain ⟨k, hk, rfl, rfl⟩ := hrel
      by_cases hlt : k < m
      · have hlt' : (k : Int) < (m : Int) := by omega
        obtain ⟨b, off, rfl, hblt, c0⟩ := HG4.out.num (nums_get hlt)
        go_wp2_with fail
        go_roundw
        case rel => exact ⟨k + 1, by omega, by go_num, by first | rfl | trivial⟩
        case measure => simp [intOf]; omega
      · have hlt' : ¬ (k : Int) < (m : Int) := by omega
        go_wp2_with fail
        refine (awake_any _).mono ?_
        rintro e w5 ⟨rfl, hb5⟩
        go_wp2_with fail
        go_ret
        exact ⟨rfl, bt HB4.out hb5⟩
  · have HOK := Lib.hid hok
    clear hok
    go_wp2_with fail
    refine (CQ.out _ HA2.out).mono ?_
    rintro e w3 ⟨hb3, ⟨h, _⟩ | ⟨_, he⟩⟩
    · exact absurd h HOK.out
    obtain ⟨t, ht⟩ : ∃ t : Int, t = -1 := ⟨_, rfl⟩
    rw [← ht] at he
    have ht0 : ¬ 0 ≤ t := by omega
    have ht1 : max t 0 = 0 := by omega
    clear ht
    subst he
    have HA3 := Lib.hid (HA2.out.below hb3)
    have HS3 := Lib.hid (HS2.out.below hb3)
    have HB3 := Lib.hid (bt HB2.out hb3)
    clear p0 p1 p2 p3 p4 hb3 HP2 HA2 HS2 HB2 CQ hz2
    go_wp2_with fail
    refine (CS.out _ HS3.out HA3.out).mono ?_
    rintro e w4 ⟨rfl, hb4⟩
    have HB4 := Lib.hid (bt HB3.out hb4)
    clear hb4 HA3 HS3 HB3 CS
    go_wp2_with fail
    go_loopw [9] (fun i wr => i = .int .i64 0 ∧ w4 = wr) (fun _ _ => 0)
    case atStart => exact ⟨rfl, rfl⟩
    case round =>
      obtain ⟨rfl, rfl⟩ := hrel
      go_wp2_with fail
      refine (awake_any _).mono ?_
      rintro e w5 ⟨rfl, hb5⟩
      go_wp2_with fail
      go_ret
      exact ⟨rfl, bt HB4.out hb5⟩

theorem sread_any (kd r c s sh : Int) (A : Option Addr) (cp : Nat) (l : List Slot) (w : World) (hA : RowAt encSl 5 w A l) (hw : ∀ x, x ∈ l → wfS x) (hc : l.length ≤ cp) (hn : A = none → cp = 0) :
    Calls Try.prog 4 #[.agg #[.int .i64 kd, .int .i64 r, .int .i64 c, .int .i64 s, .int .i64 sh], .slice A l.length cp] w fun e w' => e = .returned (.bool true) ∧ Below w.heap.size w w' := by
  by_cases h : 120 < l.length
  · exact sread_far kd r c s sh A cp l w h
  · cases A with
    | some a => exact sread_some kd r c s sh a cp l w hA hw (by omega)
    | none =>
      obtain rfl := hn rfl
      obtain rfl := List.eq_nil_of_length_eq_zero (Nat.le_zero.1 hc)
      exact sread_none kd r c s sh w
end Go.Proofs.Ythiplocjiamahaa
