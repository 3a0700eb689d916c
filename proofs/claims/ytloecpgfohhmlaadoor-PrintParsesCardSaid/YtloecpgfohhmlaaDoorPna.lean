/-
  print.number, for every string: the number that it tells, or none; below the heap's size nothing turns.
-/
import Derived.Test.YtloecpgfohhmlaaDoorPri
import Derived.Laws.RangeString
import Derived.Laws.RangeAny
import Derived.Laws.Runes
import Derived.Lib.OthersKept
import Derived.Lib.Strings
namespace Go.Proofs.YtloecpgfohhmlaaDoor
open Go.RowKit Go.Proofs.Prn

theorem next_gen (w : World) (s : ByteArray) (k : Nat) (h : k < s.size) : ∃ (R : Int) (p : Nat), k < p ∧
    (∀ ty, (Instr.next (.pointer (some ⟨w.heap.size, 0, none⟩)) true ty).run Tryd.prog (w.iter s k) = .ok (.tuple #[.bool true, .int .i64 k, .int .i32 R]) (w.iter s p)) ∧
    Hid (48 ≤ R ∧ R ≤ 57 → R = ((s[k]'h).toNat : Int) ∧ p = k + 1) ∧ Hid (¬ (48 ≤ R ∧ R ≤ 57) → ¬ (48 ≤ (s[k]'h).toNat ∧ (s[k]'h).toNat ≤ 57)) := by
  by_cases ha : (s[k]'h).toNat < 128
  · exact ⟨((s[k]'h).toNat : Int), k + 1, by omega, fun ty => run_next_ascii w s k ty h ha, fun _ => ⟨rfl, rfl⟩, fun hn hd => hn (by omega)⟩
  · have hh := decode_high s k h (by omega)
    refine ⟨((Utf8.decode s k).1 : Int), k + (Utf8.decode s k).2, by omega, fun ty => run_next_any w s k ty h, fun hd => ?_, fun _ hd => by omega⟩
    have := hh.1
    omega

set_option maxHeartbeats 4000000 in
set_option maxRecDepth 100000 in
theorem number_gen (s rest : ByteArray) (below : Bool) (w : World) (hs : rest.size ≤ 1000000) (hl : below = false → rest.data.toList.head? ≠ some 45)
    (hp : Calls Tryd.prog 54 #[.string s, .string ⟨#[45]⟩] w fun e w' => e = .returned (.tuple #[.string rest, .bool below]) ∧ w = w') :
    Calls Tryd.prog 44 #[.string s] w fun e w' => e = .returned (numV (numS below rest.data.toList)) ∧ Below w.heap.size w w' := by
  have HP := Lib.hid hp
  clear hp
  have HL := Lib.hid hl
  clear hl
  go_enter Tryd.func44, Tryd.ntmps44
  go_wp2_with fail
  refine (HP.out).mono ?_
  rintro e w' ⟨rfl, rfl⟩
  go_wp2_with fail
  go_loopw [6] (fun n wr => ∃ k v : Nat, wr = w.iter rest k ∧ k ≤ rest.size ∧ n = .int .i64 v ∧ v ≤ 999999999999999999 ∧ Hid (v = valD (rest.data.toList.take k)) ∧ Hid ((rest.data.toList.take k).all digB = true) ∧ Hid (∀ j, j < k → valD (rest.data.toList.take j) ≤ 99999999999999999))
    (fun _ wr => rest.size - wr.iterPos w.heap.size)
  case atStart => exact ⟨0, 0, rfl, Nat.zero_le _, rfl, by omega, by show 0 = _; rfl, by show List.all _ _ = true; rfl, by show ∀ _, _; intro j hj; omega⟩
  case round =>
    obtain ⟨k, v, rfl, hk, rfl, hv, HV, HD, HB⟩ := hrel
    by_cases hp : k < rest.size
    · obtain ⟨R, p, hpk, hnx, H1, H2⟩ := next_gen w rest k hp
      have hkl : k < rest.data.toList.length := by rw [size_list]; exact hp
      have hgl : rest.data.toList[k] = rest[k] := get_list rest k hp
      have hbel : Below w.heap.size w (w.iter rest p) := bl (Below.refl _ _) _
      have HBL := Lib.hid hbel
      clear hbel
      by_cases hd : 48 ≤ R ∧ R ≤ 57
      · obtain ⟨h48, h57⟩ := hd
        have h1 := H1.out ⟨h48, h57⟩
        clear H1 H2
        obtain ⟨hR, rfl⟩ := h1
        by_cases hbig : 99999999999999999 < v
        · have HN : Hid (numS below rest.data.toList = none) := numS_none _ _ HL.out (too_great _ k hkl HD.out (by rw [← HV.out]; exact hbig))
          have hbig' : (99999999999999999 : Int) < (v : Int) := by omega
          clear hgl hR
          go_wp2_with fail
          go_ret2
          exact ⟨by rw [HN.out]; rfl, HBL.out⟩
        · have hbig' : (v : Int) ≤ 99999999999999999 := by omega
          have HV2 : Hid (((10 * v + (R - 48) : Int)) = ((valD (rest.data.toList.take (k + 1)) : Nat) : Int)) := by
            show _ = _
            rw [val_take_snoc _ k hkl, hgl, ← HV.out, hR]
            have := HD.out
            omega
          have hdk : digB rest.data.toList[k] = true := by rw [digB_iff, hgl]; omega
          have HD2 : Hid ((rest.data.toList.take (k + 1)).all digB = true) := all_take_snoc _ k hkl HD.out hdk
          have HB2 : Hid (∀ j, j < k + 1 → valD (rest.data.toList.take j) ≤ 99999999999999999) := by
            show ∀ _, _
            intro j hj
            rcases Nat.lt_or_ge j k with h | h
            · exact HB.out j h
            · obtain rfl : j = k := by omega
              rw [← HV.out]; omega
          clear hgl hR hdk
          go_wp2_with fail
          go_roundw
          case rel => exact ⟨k + 1, (10 * v + (R - 48)).toNat, rfl, by omega, by rw [Int.toNat_of_nonneg (by omega)], by omega, by show _ = _; have := HV2.out; omega, HD2.out, HB2.out⟩
          case measure => simp; omega
      · have HN : Hid (numS below rest.data.toList = none) := numS_none _ _ HL.out (not_dig _ k hkl (by rw [hgl]; exact H2.out hd))
        clear hgl H1 H2
        by_cases hlo : R < 48
        · go_wp2_with fail
          go_ret2
          exact ⟨by rw [HN.out]; rfl, HBL.out⟩
        · have hhi : 57 < R := by omega
          have hlo' : 48 ≤ R := by omega
          clear hd
          go_wp2_with fail
          go_ret2
          exact ⟨by rw [HN.out]; rfl, HBL.out⟩
    · have hnx : ∀ ty, (Instr.next (.pointer (some ⟨w.heap.size, 0, none⟩)) true ty).run Tryd.prog (w.iter rest k) = _ := fun ty => run_next_end w rest k ty hp
      have hbel : Below w.heap.size w (w.iter rest k) := bl (Below.refl _ _) _
      have HBL := Lib.hid hbel
      have hks : rest.data.toList.take k = rest.data.toList := List.take_of_length_le (by rw [size_list]; omega)
      have HV2 : Hid (v = valD rest.data.toList) := by show _ = _; rw [HV.out, hks]
      have HD2 : Hid (rest.data.toList.all digB = true) := by show _ = _; rw [← HD.out, hks]
      clear hbel hks
      by_cases h0 : 0 < rest.size
      · obtain ⟨e1, e2⟩ := str_some rest h0
        have hne : rest.data.toList ≠ [] := by rw [← ByteArray.toList_eq]; exact e1
        have hhd := head_get rest h0
        have hok : (rest.data.toList.head? ≠ some 48 ∨ rest.data.toList.length ≤ 1) → natB rest.data.toList = true := fun hd =>
          nat_ok _ HD2.out hne hd fun j hj => HB.out j (by rw [size_list] at hj; omega)
        have HOK := Lib.hid hok
        have HHD := Lib.hid hhd
        clear hok hhd hne
        by_cases h48 : ((rest[0].toNat : Nat) : Int) = 48
        · have h48' : rest[0] = 48 := UInt8.toNat_inj.1 (by show rest[0].toNat = 48; omega)
          have HZ : Hid (rest.data.toList.head? = some 48) := by show _ = _; rw [HHD.out, h48']
          have b48 : (((rest[0].toNat : Nat) : Int) == 48) = true := by rw [h48]; rfl
          clear h48'
          by_cases h1 : 1 < rest.size
          · have HN : Hid (numS below rest.data.toList = none) := numS_none _ _ HL.out (nat_zero _ HZ.out (by rw [size_list]; exact h1))
            have h1' : (1 : Int) < (rest.size : Int) := by omega
            go_wp2_with fail
            go_ret2
            exact ⟨by rw [HN.out]; rfl, HBL.out⟩
          · have h1' : (rest.size : Int) ≤ 1 := by omega
            have HO1 : Hid (natB rest.data.toList = true) := HOK.out (.inr (by rw [size_list]; omega))
            cases below
            · have HN : Hid (numS false rest.data.toList = some (valD rest.data.toList : Int)) := numS_pos _ HO1.out
              go_wp2_with fail
              go_ret2
              exact ⟨by rw [HN.out, ← HV2.out]; rfl, HBL.out⟩
            · have HN : Hid (numS true rest.data.toList = none) := numS_zero _ HZ.out
              go_wp2_with fail
              go_ret2
              exact ⟨by rw [HN.out]; rfl, HBL.out⟩
        · have hz : rest.data.toList.head? ≠ some 48 := by
            rw [HHD.out]
            intro e
            injection e with e
            exact h48 (by rw [e]; rfl)
          have b48 : (((rest[0].toNat : Nat) : Int) == 48) = false := by simpa using h48
          have HO1 : Hid (natB rest.data.toList = true) := HOK.out (.inl hz)
          have HZ := Lib.hid hz
          clear hz
          cases below
          · have HN : Hid (numS false rest.data.toList = some (valD rest.data.toList : Int)) := numS_pos _ HO1.out
            go_wp2_with fail
            go_ret2
            exact ⟨by rw [HN.out, ← HV2.out]; rfl, HBL.out⟩
          · have HN : Hid (numS true rest.data.toList = some (-(valD rest.data.toList : Int))) := numS_neg _ HO1.out HZ.out
            go_wp2_with fail
            go_ret2
            exact ⟨by rw [HN.out, ← HV2.out]; rfl, HBL.out⟩
      · obtain ⟨e1, e2⟩ := str_empty rest (by omega)
        have HN : Hid (numS below rest.data.toList = none) := numS_none _ _ HL.out (by rw [← ByteArray.toList_eq, e1]; rfl)
        go_wp2_with fail
        go_ret2
        exact ⟨by rw [HN.out]; rfl, HBL.out⟩
end Go.Proofs.YtloecpgfohhmlaaDoor
