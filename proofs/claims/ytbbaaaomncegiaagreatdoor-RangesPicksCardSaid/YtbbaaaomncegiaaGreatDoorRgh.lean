/-
  ranges.number: the number that a text begins with, and what is behind it; below the heap's size nothing turns.
-/
import Derived.Test.YtbbaaaomncegiaaGreatDoorRgu
import Derived.Laws.RangeString
import Derived.Laws.RangeAny
import Derived.Laws.Runes
import Derived.Lib.OthersKept
import Derived.Lib.Strings
import Derived.Test.YtbbaaaomncegiaaGreatDoorQbl
import Derived.IntWalk
namespace Go.Proofs.YtbbaaaomncegiaaGreatDoor
open Go.RowKit Go.Proofs.Spn Go.Proofs.Rng Go.Proofs.Prn

theorem next_gen (w : World) (s : ByteArray) (k : Nat) (h : k < s.size) : ∃ (R : Int) (p : Nat), k < p ∧
    (∀ ty, (Instr.next (.pointer (some ⟨w.heap.size, 0, none⟩)) true ty).run Tryz.prog (w.iter s k) = .ok (.tuple #[.bool true, .int .i64 k, .int .i32 R]) (w.iter s p)) ∧
    Hid (48 ≤ R ∧ R ≤ 57 → R = ((s[k]'h).toNat : Int) ∧ p = k + 1) ∧ Hid (¬ (48 ≤ R ∧ R ≤ 57) → ¬ (48 ≤ (s[k]'h).toNat ∧ (s[k]'h).toNat ≤ 57)) := by
  by_cases ha : (s[k]'h).toNat < 128
  · exact ⟨((s[k]'h).toNat : Int), k + 1, by omega, fun ty => run_next_ascii w s k ty h ha, fun _ => ⟨rfl, rfl⟩, fun hn hd => hn (by omega)⟩
  · have hh := decode_high s k h (by omega)
    refine ⟨((Utf8.decode s k).1 : Int), k + (Utf8.decode s k).2, by omega, fun ty => run_next_any w s k ty h, fun hd => ?_, fun _ hd => by omega⟩
    have := hh.1
    omega
theorem drop_get (s : ByteArray) (k : Nat) (h : k < s.size) : s.data.toList.drop k = s[k]'h :: s.data.toList.drop (k + 1) := by
  rw [List.drop_eq_getElem_cons (by rw [size_list]; exact h), get_list s k h]
theorem extract_tail (s : ByteArray) (k : Nat) : s.extract k s.size = bs (s.data.toList.drop k) := by
  rw [← bs_self (s.extract k s.size), ByteArray.data_extract, Array.toList_extract, List.extract_eq_take_drop, ← size_list, ← List.length_drop, List.take_length]
theorem numR_stop {j n : Nat} {c : UInt8} {r : Bytes} (h : digB c = false ∨ j = 0 ∨ (n = 0 ∧ c = 48)) : numR j n (c :: r) = (n, c :: r) := by
  cases j with
  | zero => rfl
  | succ j =>
    unfold numR
    rw [if_neg]
    rintro ⟨h1, h2⟩
    rcases h with h | h | h
    · rw [h] at h1; cases h1
    · cases h
    · exact h2 h
theorem numR_go {j n : Nat} {c : UInt8} {r : Bytes} (h : digB c = true) (hz : ¬ (n = 0 ∧ c = 48)) : numR (j + 1) n (c :: r) = numR j (10 * n + (c.toNat - 48)) r := by
  show (if digB c = true ∧ ¬ (n = 0 ∧ c = 48) then _ else _) = _
  rw [if_pos ⟨h, hz⟩]

set_option maxHeartbeats 4000000 in
set_option maxRecDepth 100000 in
theorem number_any (s : ByteArray) (w : World) (_hs : s.size ≤ 100000000) :
    Calls Tryz.prog 70 #[.string s] w fun e w' => e = .returned (.tuple #[.int .i64 (headR s.data.toList).1, .string (bs (headR s.data.toList).2)]) ∧ Below w.heap.size w w' := by
  go_enter Tryz.func70, Tryz.ntmps70
  go_wp2_with fail
  go_loopw [2] (fun n wr => ∃ k v : Nat, wr = w.iter s k ∧ k ≤ s.size ∧ k ≤ 6 ∧ n = .int .i64 v ∧ v ≤ 999999 ∧ Hid (v < 10 ^ k) ∧ Hid (headR s.data.toList = numR (6 - k) v (s.data.toList.drop k)))
    (fun _ wr => s.size - wr.iterPos w.heap.size)
  case atStart => exact ⟨0, 0, rfl, Nat.zero_le _, by omega, rfl, by omega, by show 0 < 1; omega, rfl⟩
  case round =>
    obtain ⟨k, v, rfl, hk, hk6, rfl, hv, HV, HH⟩ := hrel
    by_cases hp : k < s.size
    · obtain ⟨R, p, hpk, hnx, H1, H2⟩ := next_gen w s k hp
      have hbel : Below w.heap.size w (w.iter s p) := bl (Below.refl _ _) _
      have HBL := Lib.hid hbel
      have hdr := drop_get s k hp
      have hh := HH.out
      rw [hdr] at hh
      have HT := Lib.hid (extract_tail s k)
      rw [hdr] at HT
      clear hbel HH hdr
      have i1 : (0 : Int) ≤ (k : Int) := by omega
      have i2 : (k : Int) ≤ (s.size : Int) := by omega
      have i3 : k ≤ s.size := hk
      by_cases hd : 48 ≤ R ∧ R ≤ 57
      · obtain ⟨h48, h57⟩ := hd
        have h1 := H1.out ⟨h48, h57⟩
        have d1 : decide (R < 48) = false := by simpa using h48
        have d2 : decide (57 < R) = false := by simpa using h57
        obtain ⟨hR, rfl⟩ := h1
        have hdk : digB (s[k]'hp) = true := by rw [digB_iff]; omega
        by_cases k6 : k = 6
        · have b6 : ((k : Int) == 6) = true := by rw [beq_iff_eq]; omega
          have K6 := Lib.hid k6
          clear k6
          have HN : Hid (headR s.data.toList = (v, s[k] :: s.data.toList.drop (k + 1))) := by
            show _ = _
            rw [hh]
            exact numR_stop (.inr (.inl (by have := K6.out; omega)))
          clear hh H1 H2 hdk hR
          go_wp2_with fail
          refine wp_region_from (by kernel_rfl) (by kernel_rfl) ?_
          repeat (go_big_quiet_step (fail))
          refine wpQuiet_nil ?_
          intro _ hw'
          obtain ⟨q, rfl⟩ := hw'
          have HB2 := Lib.hid (bt HBL.out q.below)
          generalize q.W = W2 at HB2 ⊢
          clear q
          go_wp2_with fail
          go_ret2
          exact ⟨by rw [HN.out, ← HT.out]; rfl, HB2.out⟩
        · have b6 : ((k : Int) == 6) = false := by rw [beq_eq_false_iff_ne]; omega
          by_cases hz : v = 0 ∧ R = 48
          · obtain ⟨rfl, rfl⟩ := hz
            have HN : Hid (headR s.data.toList = (0, s[k] :: s.data.toList.drop (k + 1))) := by
              show _ = _
              rw [hh]
              exact numR_stop (.inr (.inr ⟨rfl, UInt8.toNat_inj.1 (by show (s[k]'hp).toNat = 48; omega)⟩))
            clear hh H1 H2 hdk hR
            go_wp2_with fail
            refine wp_region_from (by kernel_rfl) (by kernel_rfl) ?_
            repeat (go_big_quiet_step (fail))
            refine wpQuiet_nil ?_
            intro _ hw'
            obtain ⟨q, rfl⟩ := hw'
            have HB2 := Lib.hid (bt HBL.out q.below)
            generalize q.W = W2 at HB2 ⊢
            clear q
            go_wp2_with fail
            go_ret2
            exact ⟨by rw [HN.out, ← HT.out]; rfl, HB2.out⟩
          · have hz' : ¬ (v = 0 ∧ s[k]'hp = 48) := fun e => hz ⟨e.1, by rw [hR, e.2]; rfl⟩
            have HN : Hid (headR s.data.toList = numR (6 - (k + 1)) (10 * v + (R - 48).toNat) (s.data.toList.drop (k + 1))) := by
              show _ = _
              rw [hh, show 6 - k = (6 - (k + 1)) + 1 by omega, numR_go hdk hz', hR]
              congr 2
              omega
            have HV2 : Hid (10 * v + (R - 48).toNat < 10 ^ (k + 1)) := by
              show _ < _
              rw [Nat.pow_succ]
              have := HV.out
              omega
            have hv2 : 10 * v + (R - 48).toNat ≤ 999999 := by
              have h1 : (10 : Nat) ^ (k + 1) ≤ 10 ^ 6 := Nat.pow_le_pow_right (by omega) (by omega)
              have h2 := HV2.out
              have h3 : (10 : Nat) ^ 6 = 1000000 := by decide
              omega
            have w1 : IntKind.i32.wrap (R - 48) = R - 48 := IntWalk.i32_in _ (by omega)
            by_cases hv0 : v = 0
            · have bz : ((v : Int) == 0) = true := by rw [beq_iff_eq]; omega
              have b48 : (R == 48) = false := by rw [beq_eq_false_iff_ne]; exact fun e => hz ⟨hv0, e⟩
              clear hh H1 H2 hdk hR hz hz' hv0
              go_wp2_with fail
              go_roundw
              case rel => exact ⟨k + 1, 10 * v + (R - 48).toNat, rfl, by omega, by omega, congrArg (Value.int .i64) (by omega), hv2, HV2, HN⟩
              case measure => simp; omega
            · have bz : ((v : Int) == 0) = false := by rw [beq_eq_false_iff_ne]; omega
              clear hh H1 H2 hdk hR hz hz' hv0
              go_wp2_with fail
              go_roundw
              case rel => exact ⟨k + 1, 10 * v + (R - 48).toNat, rfl, by omega, by omega, congrArg (Value.int .i64) (by omega), hv2, HV2, HN⟩
              case measure => simp; omega
      · have hnd : digB (s[k]'hp) = false := by
          have := H2.out hd
          rw [← Bool.not_eq_true, digB_iff]
          exact this
        by_cases hlo : R < 48
        · have d1 : decide (R < 48) = true := decide_eq_true hlo
          have HN : Hid (headR s.data.toList = (v, s[k] :: s.data.toList.drop (k + 1))) := by
            show _ = _
            rw [hh]
            exact numR_stop (.inl hnd)
          clear hh H1 H2 hnd hd
          go_wp2_with fail
          refine wp_region_from (by kernel_rfl) (by kernel_rfl) ?_
          repeat (go_big_quiet_step (fail))
          refine wpQuiet_nil ?_
          intro _ hw'
          obtain ⟨q, rfl⟩ := hw'
          have HB2 := Lib.hid (bt HBL.out q.below)
          generalize q.W = W2 at HB2 ⊢
          clear q
          go_wp2_with fail
          go_ret2
          exact ⟨by rw [HN.out, ← HT.out]; rfl, HB2.out⟩
        · have d1 : decide (R < 48) = false := decide_eq_false hlo
          have hhi : 57 < R := by omega
          have d2 : decide (57 < R) = true := decide_eq_true hhi
          have HN : Hid (headR s.data.toList = (v, s[k] :: s.data.toList.drop (k + 1))) := by
            show _ = _
            rw [hh]
            exact numR_stop (.inl hnd)
          clear hh H1 H2 hnd hd
          go_wp2_with fail
          refine wp_region_from (by kernel_rfl) (by kernel_rfl) ?_
          repeat (go_big_quiet_step (fail))
          refine wpQuiet_nil ?_
          intro _ hw'
          obtain ⟨q, rfl⟩ := hw'
          have HB2 := Lib.hid (bt HBL.out q.below)
          generalize q.W = W2 at HB2 ⊢
          clear q
          go_wp2_with fail
          go_ret2
          exact ⟨by rw [HN.out, ← HT.out]; rfl, HB2.out⟩
    · have hnx : ∀ ty, (Instr.next (.pointer (some ⟨w.heap.size, 0, none⟩)) true ty).run Tryz.prog (w.iter s k) = _ := fun ty => run_next_end w s k ty hp
      have hbel : Below w.heap.size w (w.iter s k) := bl (Below.refl _ _) _
      have HBL := Lib.hid hbel
      have HN : Hid (headR s.data.toList = (v, [])) := by
        show _ = _
        rw [HH.out, List.drop_of_length_le (by rw [size_list]; omega)]
        cases 6 - k <;> rfl
      clear hbel HH
      go_wp2_with fail
      go_ret2
      exact ⟨by rw [HN.out]; rfl, HBL.out⟩
end Go.Proofs.YtbbaaaomncegiaaGreatDoor
