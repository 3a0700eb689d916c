/-
  ranges.Of: the choice of some numbers; below the heap's size nothing turns.
-/
import Derived.Test.YtbbaaaomncegiaaGreatDoorRgd
namespace Go.Proofs.YtbbaaaomncegiaaGreatDoor
open Go.RowKit Go.Proofs.Spn Go.Proofs.Rng

def encI (n : Int) : List Value := [.int .i64 n]
theorem encI_len (n : Int) : (encI n).length = 1 := rfl
def ofP (ns : List Int) : List Sp := (ns.filter fun n => hasS wholeS n).map fun n => (n, n + 1)
theorem ofP_snoc (ns : List Int) (k : Nat) (n : Int) (h : ns[k]? = some n) : ofP (ns.take (k + 1)) = if hasS wholeS n = true then ofP (ns.take k) ++ [(n, n + 1)] else ofP (ns.take k) := by
  unfold ofP
  rw [List.take_add_one, h]
  simp only [Option.toList, List.filter_append, List.map_append]
  by_cases hq : hasS wholeS n = true
  · rw [if_pos hq]; simp [hq]
  · rw [if_neg hq]; simp [hq]
theorem ofP_len (ns : List Int) (k : Nat) : (ofP (ns.take k)).length ≤ ns.length := by
  unfold ofP
  rw [List.length_map]
  exact Nat.le_trans (List.length_filter_le _ _) (List.length_take_le' _ _)

set_option maxHeartbeats 4000000 in
set_option maxRecDepth 100000 in
theorem of_any (A : Option Addr) (c : Nat) (ns : List Int) (w : World) (hA : RowAt encI 1 w A ns) (hn : ns.length ≤ 900000) :
    Calls Tryz.prog 16 #[.slice A ns.length c] w (GivesS (ofS ns) w) := by
  obtain ⟨R, hR⟩ : ∃ R, ofS ns = R := ⟨_, rfl⟩
  have HRR : Hid (joinS (ofP ns) = R) := hR
  rw [hR]
  have HA := Lib.hid hA
  clear hA hR
  go_enter Tryz.func16, Tryz.ntmps16
  go_wp2_with fail
  go_loopw [3, 8] (fun v i wr => ∃ (k : Nat), k ≤ ns.length ∧ i = .int .i64 k ∧ Hid (wr.ownsRow w.heap.size 24 2 v (ofP (ns.take k)).length (flatS (ofP (ns.take k)))) ∧ Hid (Below w.heap.size w wr))
    (fun _ i _ => ns.length - (intOf i).toNat)
  case atStart => exact ⟨0, Nat.zero_le _, rfl, World.ownsRow_nil _ _ _ _, Below.refl _ _⟩
  case round =>
    obtain ⟨k, hk, rfl, HO, HB⟩ := hrel
    by_cases hlt : k < ns.length
    · obtain ⟨n, hx⟩ : ∃ n, ns[k]? = some n := ⟨_, List.getElem?_eq_getElem hlt⟩
      obtain ⟨b, off, rfl, hb, hc⟩ := HA.out.below HB.out k n hx
      have c1 := hc 0 _ rfl
      simp only [Nat.add_zero, Nat.mul_one] at c1
      have hlt' : (k : Int) < (ns.length : Int) := by omega
      have HST := Lib.hid (ofP_snoc ns k n hx)
      have hol := ofP_len ns k
      have cW := fun W => whole_any W
      have cH := fun W => has_any 1 1000000 n W
      generalize ofP (ns.take k) = o at HO HST hol
      clear hc hx
      by_cases hq : hasS (1, 1000000) n = true
      · rw [hq] at cH
        have hst := HST.out
        rw [if_pos hq] at hst
        have HS2 := Lib.hid hst
        have hn1 : 1 ≤ n ∧ n < 1000000 := by unfold hasS at hq; simpa using hq
        have e1 : IntKind.i64.wrap (n + 1) = n + 1 := IntWalk.i64_in _ (by omega)
        clear HST hst hq hn1
        go_wp2_with (first
          | (go_at_call 28; refine (cW _).mono ?_; rintro e w2 ⟨rfl, hb2⟩)
          | (go_at_call 36; refine (cH _).mono ?_; rintro e w3 ⟨rfl, hb3⟩; have HO3 := Lib.hid (ob (ob HO.out hb2) hb3); have HB3 := Lib.hid (bt (bt HB.out hb2) hb3))
          | (at_builtin; refine wpList_append_spans (by rfl) _ _ (by rfl) (by rfl) w.heap.size _ o (by rfl) (HO3.out.alloc _) (some ⟨w3.heap.size, 0, none⟩) 1 1 [(n, n + 1)] (by rfl) rfl (spans_new w3 [(n, n + 1)]) (by simp only [List.length_nil, List.length_cons]; omega) (bl HB3.out _).size ?_))
        intro v5 w5 own5 grow5
        have HB5 := Lib.hid ((bl HB3.out _).grown grow5 (bl HB3.out (.cells #[.int .i64 n, .int .i64 (n + 1)] 24)).size fun j hj => (HO3.out.lt j hj).1)
        have HO5 : Hid (w5.ownsRow w.heap.size 24 2 v5 (ofP (ns.take (k + 1))).length (flatS (ofP (ns.take (k + 1))))) := by
          show World.ownsRow _ _ _ _ _ _ _
          rw [HS2.out]
          simpa using own5
        clear own5 grow5
        go_wp2_with fail
        go_roundw
        case rel => exact ⟨k + 1, by omega, by go_num, HO5, HB5⟩
        case measure => simp [intOf]; omega
      · rw [show hasS (1, 1000000) n = false by simpa using hq] at cH
        have hst := HST.out
        rw [if_neg hq] at hst
        have HS2 := Lib.hid hst
        clear HST hst hq
        go_wp2_with (first
          | (go_at_call 28; refine (cW _).mono ?_; rintro e w2 ⟨rfl, hb2⟩)
          | (go_at_call 36; refine (cH _).mono ?_; rintro e w3 ⟨rfl, hb3⟩; have HO3 := Lib.hid (ob (ob HO.out hb2) hb3); have HB3 := Lib.hid (bt (bt HB.out hb2) hb3)))
        have HO5 : Hid (w3.ownsRow w.heap.size 24 2 u3 (ofP (ns.take (k + 1))).length (flatS (ofP (ns.take (k + 1))))) := by
          show World.ownsRow _ _ _ _ _ _ _
          rw [HS2.out]
          exact HO3.out
        go_roundw
        case rel => exact ⟨k + 1, by omega, by go_num, HO5, HB3⟩
        case measure => simp [intOf]; omega
    · have hlt' : ¬ (k : Int) < (ns.length : Int) := by omega
      have e : ns.take k = ns := List.take_of_length_le (by omega)
      have ho := HO.out
      have hol := ofP_len ns k
      rw [e] at ho hol
      have HR := HRR.out
      generalize ofP ns = o at ho HR hol
      obtain ⟨A1, c1, rfl, hO, hl1, hl2⟩ := Own2.of_row ho
      unfold maxLen at hl2
      have HO2 := Lib.hid hO
      have HR2 := Lib.hid HR
      clear e ho HO hO HR HRR
      go_wp2_with fail
      refine (joined_any w.heap.size A1 c1 o wr HO2.out HB.out.size hl1 hl2 (by omega)).mono ?_
      rintro e w2 ⟨v, rfl, hr, hb2⟩
      rw [HR2.out] at hr
      have HB2 := Lib.hid (HB.out.trans hb2)
      have HR3 := Lib.hid hr
      clear hr hb2
      go_wp2_with fail
      go_ret
      exact GivesS.of HR3.out HB2.out HB.out.size
end Go.Proofs.YtbbaaaomncegiaaGreatDoor
