/-
  gatefoldref29.numbers: the numbers of fields, or that they are none.
-/
import Derived.Test.YtloecpgfohhmlaaDoorPva
import Derived.Test.YtloecpgfohhmlaaDoorPnb
namespace Go.Proofs.YtloecpgfohhmlaaDoor
open Go.RowKit Go.Proofs.Prn

theorem rnum_no (x : ByteArray) (w : World) (hx : x.size ≤ 1000000) (hn : numP x.data.toList = none) : Calls Tryd.prog 39 #[.string x] w fun e w' => ∃ z, e = .returned (.tuple #[.int .i64 z, .bool false]) ∧ Below w.heap.size w w' := by
  refine (rnum_any 1000000 x w hx (Nat.le_refl _)).mono fun e w' hg => ?_
  obtain ⟨z, b, he, ⟨h1, _⟩, hb⟩ := hg
  rw [hn] at h1
  cases b with
  | true => simp at h1
  | false => exact ⟨z, he, hb⟩
theorem rnum_yes (x : ByteArray) (n : Int) (w : World) (hx : x.size ≤ 1000000) (hn : numP x.data.toList = some n) : Calls Tryd.prog 39 #[.string x] w fun e w' => e = .returned (.tuple #[.int .i64 n, .bool true]) ∧ Below w.heap.size w w' := by
  refine (rnum_any 1000000 x w hx (Nat.le_refl _)).mono fun e w' hg => ?_
  obtain ⟨z, b, he, ⟨h1, _⟩, hb⟩ := hg
  rw [hn] at h1
  cases b with
  | false => simp at h1
  | true =>
    simp at h1
    subst h1
    exact ⟨he, hb⟩

set_option maxHeartbeats 8000000 in
set_option maxRecDepth 100000 in
theorem rnumbers_any (A : Option Addr) (c many : Nat) (xs : List ByteArray) (w : World) (h : RowAt encS 1 w A xs) (hs : ∀ x ∈ xs, x.size ≤ 1000000) (hl : xs.length ≤ 1000000) :
    Calls Tryd.prog 28 #[.slice A xs.length c, .int .i64 many] w (RowGives many (rowP (strs xs)) w) := by
  obtain ⟨i0, hi, hz0, hz1, hz2⟩ := info_parts Tryd.infoInt
  have HS := Lib.hid hs
  have HA := Lib.hid h
  clear hs h
  go_enter Tryd.func28, Tryd.ntmps28
  go_wp2_with fail
  go_loopw [6, 7] (fun v i wr => ∃ (k : Nat) (l : List Int), i = .int .i64 k ∧ k ≤ xs.length ∧ Hid (rowP (strs (xs.take k)) = some l ∧ l.length = k) ∧ w.heap.size ≤ wr.heap.size ∧ Hid (wr.ownsRow w.heap.size 3 1 v k (flatL encI l)) ∧ Hid (Below w.heap.size w wr))
    (fun _ i _ => xs.length - (intOf i).toNat)
  case atStart => exact ⟨0, [], rfl, Nat.zero_le _, ⟨rfl, rfl⟩, Nat.le_refl _, World.ownsRow_nil _ _ _ _, Below.refl _ _⟩
  case round =>
    obtain ⟨k, l, rfl, hk, HL, hsz, hown, hb⟩ := hrel
    by_cases hlt : k < xs.length
    · have hx : xs[k]? = some xs[k] := List.getElem?_eq_getElem hlt
      have hxs := HS.out xs[k] (List.getElem_mem hlt)
      have et : xs.take (k + 1) = xs.take k ++ [xs[k]] := List.take_succ_eq_append_getElem hlt
      have ed : xs = xs.take k ++ xs[k] :: xs.drop (k + 1) := by rw [← List.drop_eq_getElem_cons hlt, List.take_append_drop]
      generalize xs[k] = x at hx hxs et ed
      obtain ⟨b, off, rfl, hbl, hc⟩ := (HA.out.below (hb.out)) k x hx
      have hcell : wr.cell? ⟨b, off + k, none⟩ = some (.string x) := by simpa using hc 0 _ rfl
      have hlt' : (k : Int) < (xs.length : Int) := by omega
      have ik0 : (0 : Int) ≤ (k : Int) := by omega
      cases hn : numP x.data.toList with
      | none =>
        have cn := fun W => rnum_no x W hxs hn
        have HN : Hid (rowP (strs xs) = none) := by
          show _ = _
          unfold strs
          rw [ed, List.map_append, List.map_cons]
          exact rowP_none _ _ _ _ HL.out.1 hn
        clear hc hx et ed hn
        go_wp2_with fail
        refine (cn _).mono ?_
        rintro e w1 ⟨z, rfl, hb1⟩
        have HB1 := Lib.hid (bt hb.out hb1)
        clear hb1
        go_wp2_with fail
        go_ret2
        exact rowGives_none HN.out HB1.out
      | some n =>
        have cn := fun W => rnum_yes x n W hxs hn
        have HN : Hid (rowP (strs (xs.take (k + 1))) = some (l ++ [n]) ∧ (l ++ [n]).length = k + 1) := by
          show _ ∧ _
          refine ⟨?_, by rw [List.length_append, HL.out.2]; rfl⟩
          unfold strs
          rw [et, List.map_append]
          exact rowP_snoc _ _ _ _ HL.out.1 hn
        clear hc hx et ed hn
        have hb1' : k + 1 ≤ maxLen := by unfold maxLen; omega
        have hb2' : (k + 1) * 8 ≤ 140737488355328 := by omega
        go_wp2_with fail
        refine (cn _).mono ?_
        rintro e w1 ⟨rfl, hb1⟩
        have HB1 := Lib.hid (bt hb.out hb1)
        have hsz1 : w.heap.size ≤ w1.heap.size := HB1.out.size
        have HO := Lib.hid ((ob hown.out hb1).alloc (.cells #[.int .i64 n] 3))
        have HO0 := Lib.hid (ob hown.out hb1)
        clear hb1 cn hcell
        go_wp2_with (at_builtin; refine wpList_append_own _ rfl _ _ 58 rfl w.heap.size 3 i0 (.int .i64 0) 1 8 Tryd.underlying58 hi hz0 hz1 hz2 rfl (by decide) _ _ _ rfl HO.out ⟨w1.heap.size, 0, none⟩ 1 1 [.int .i64 n] rfl ?c0 ?c1 ?c2 ?c3 ?c4 ?c5 ?_)
        case c0 => rfl
        case c1 => exact cells_new _ _ _
        case c2 => intro u hu; simp at hu; rcases hu with rfl; rfl
        case c3 => exact hb1'
        case c4 => exact hb2'
        case c5 => simp; omega
        intro v5 w5 hown5 hgrow5 _
        have O6 : Hid (w5.ownsRow w.heap.size 3 1 v5 (k + 1) (flatL encI (l ++ [n]))) := by
          show World.ownsRow _ _ _ _ _ _ _
          rw [flatL_append, flatL_one_]; exact hown5
        have B6 : Hid (Below w.heap.size w w5) := ((HB1.out.alloc hsz1 _).grown hgrow5 (by simp; omega) (fun j hj => (HO0.out.lt j hj).1))
        clear hown5 hgrow5 HO HO0 HB1
        go_wp2_with fail
        go_roundw
        case rel => exact ⟨k + 1, l ++ [n], by go_num, by omega, HN, B6.out.size, O6.out, B6.out⟩
        case measure => simp [intOf]; omega
    · have hlt' : ¬ (k : Int) < (xs.length : Int) := by omega
      obtain rfl : k = xs.length := by omega
      have HR : Hid (rowP (strs xs) = some l) := by
        show _ = _
        rw [← HL.out.1, List.take_length]
      have HO2 := hown.out
      rw [← HL.out.2] at HO2
      obtain ⟨B, cp, rfl, _⟩ := RowAt.of_own encI_len HO2
      have HO3 := Lib.hid HO2
      clear HO2
      by_cases hq : l.length = many
      · have hq1 : (((l.length : Nat) : Int) == (many : Int)) = true := by rw [hq]; simp
        have HQ := Lib.hid hq
        clear hq
        go_wp2_with fail
        go_ret2
        exact rowGives_some HR.out hb.out (by rw [decide_eq_true HQ.out]) HO3.out
      · have hq1 : (((l.length : Nat) : Int) == (many : Int)) = false := by simp; omega
        have HQ := Lib.hid hq
        clear hq
        go_wp2_with fail
        go_ret2
        exact rowGives_some HR.out hb.out (by rw [decide_eq_false HQ.out]) HO3.out
end Go.Proofs.YtloecpgfohhmlaaDoor
