/-
  print.number at every string, print.row at every row of strings; below the heap's size nothing turns.
-/
import Derived.Test.YtloecpgfohhmlaaDoorPna
import Derived.Test.YtloecpgfohhmlaaDoorShelf
namespace Go.Proofs.YtloecpgfohhmlaaDoor
open Go.RowKit Go.Proofs.Prn

theorem number_any (s : ByteArray) (w : World) (hs : s.size ≤ 1000000) :
    Calls Tryd.prog 44 #[.string s] w fun e w' => e = .returned (numV (numP s.data.toList)) ∧ Below w.heap.size w w' := by
  have c := Tryd.strings_CutPrefix s ⟨#[45]⟩ w
  by_cases h : s.data.toList.head? = some 45
  · obtain ⟨r, hr⟩ : ∃ r, s.data.toList = 45 :: r := by
      cases hl : s.data.toList with
      | nil => rw [hl] at h; cases h
      | cons a r => rw [hl] at h; simp at h; exact ⟨r, by rw [h]⟩
    have e1 : Lib.hasPrefix s.data.toList [45] = true := by rw [hr]; rfl
    have e2 : Lib.trimPrefix s.data.toList [45] = r := by unfold Lib.trimPrefix; rw [e1, hr]; rfl
    have hrs : (bs r).size ≤ 1000000 := by
      rw [bs_size]
      have := congrArg List.length hr
      rw [size_list, List.length_cons] at this
      omega
    have := number_gen s (bs r) true w hrs (fun e => by cases e) (c.mono fun e w' ⟨he, hw⟩ => ⟨he.trans (by
      show Ending.returned (.tuple #[.string ⟨(Lib.trimPrefix s.data.toList [45]).toArray⟩, .bool (Lib.hasPrefix s.data.toList [45])]) = _
      rw [e1, e2]; rfl), hw.symm⟩)
    refine this.mono fun e w' ⟨he, hb⟩ => ⟨he.trans ?_, hb⟩
    rw [hr, bs_list, numS, if_pos rfl]
  · have e1 : Lib.hasPrefix s.data.toList [45] = false := by
      cases hl : s.data.toList with
      | nil => rfl
      | cons a r =>
        rw [hl] at h
        have ha : a ≠ 45 := fun e => h (by rw [e]; rfl)
        simp [Lib.hasPrefix, List.isPrefixOf, Ne.symm ha]
    have e2 : Lib.trimPrefix s.data.toList [45] = s.data.toList := by unfold Lib.trimPrefix; rw [e1]; rfl
    have := number_gen s s false w hs (fun _ => h) (c.mono fun e w' ⟨he, hw⟩ => ⟨he.trans (by
      show Ending.returned (.tuple #[.string ⟨(Lib.trimPrefix s.data.toList [45]).toArray⟩, .bool (Lib.hasPrefix s.data.toList [45])]) = _
      rw [e1, e2]), hw.symm⟩)
    exact this

theorem rowP_none (a b : List Bytes) (f : Bytes) (l : List Int) (h : rowP a = some l) (hf : numP f = none) : rowP (a ++ f :: b) = none := by
  induction a generalizing l with
  | nil => simp [rowP, hf]
  | cons x r ih =>
    rw [List.cons_append, rowP] at *
    cases hx : numP x with
    | none => rfl
    | some n =>
      rw [hx] at h
      cases hr : rowP r with
      | none => rw [hr] at h; cases h
      | some l' => simp only [ih l' hr]
theorem rowP_snoc (a : List Bytes) (f : Bytes) (l : List Int) (n : Int) (h : rowP a = some l) (hf : numP f = some n) : rowP (a ++ [f]) = some (l ++ [n]) := by
  induction a generalizing l with
  | nil => cases h; simp [rowP, hf]
  | cons x r ih =>
    rw [List.cons_append, rowP] at *
    cases hx : numP x with
    | none => rw [hx] at h; cases h
    | some m =>
      rw [hx] at h
      cases hr : rowP r with
      | none => rw [hr] at h; cases h
      | some l' =>
        rw [hr] at h
        simp only [Option.some.injEq] at h
        subst h
        simp only [ih l' hr]; rfl

def RowGives (many : Nat) (o : Option (List Int)) (w : World) (e : Ending) (w' : World) : Prop :=
  ∃ v b, e = .returned (.tuple #[v, .bool b]) ∧ Below w.heap.size w w' ∧
    (o = none → b = false) ∧ ∀ l, o = some l → b = decide (l.length = many) ∧ w'.ownsRow w.heap.size 3 1 v l.length (flatL encI l)

theorem rowGives_none {many : Nat} {o : Option (List Int)} {w w' : World} {v : Value} (h : o = none) (hb : Below w.heap.size w w') : RowGives many o w (.returned (.tuple #[v, .bool false])) w' :=
  ⟨v, false, rfl, hb, fun _ => rfl, fun l hl => (by rw [h] at hl; cases hl)⟩
theorem rowGives_some {many : Nat} {o : Option (List Int)} {w w' : World} {v : Value} {l : List Int} {b : Bool} (h : o = some l) (hb : Below w.heap.size w w') (hq : b = decide (l.length = many))
    (hown : w'.ownsRow w.heap.size 3 1 v l.length (flatL encI l)) : RowGives many o w (.returned (.tuple #[v, .bool b])) w' :=
  ⟨v, b, rfl, hb, fun e => (by rw [h] at e; cases e), fun l' hl => (by rw [h] at hl; cases hl; exact ⟨hq, hown⟩)⟩

abbrev strs (xs : List ByteArray) : List Bytes := xs.map (·.data.toList)

set_option maxHeartbeats 4000000 in
theorem row_any (A : Option Addr) (c many : Nat) (xs : List ByteArray) (w : World) (h : RowAt encS 1 w A xs) (hs : ∀ x ∈ xs, x.size ≤ 1000000) (hl : xs.length ≤ 1000000) :
    Calls Tryd.prog 38 #[.slice A xs.length c, .int .i64 many] w (RowGives many (rowP (strs xs)) w) := by
  obtain ⟨i0, hi, hz0, hz1, hz2⟩ := info_parts Tryd.infoInt
  have HS := Lib.hid hs
  have HA := Lib.hid h
  clear hs h
  go_enter Tryd.func38, Tryd.ntmps38
  go_wp2_with fail
  go_loopw [6, 13] (fun v i wr => ∃ (k : Nat) (l : List Int), i = .int .i64 k ∧ k ≤ xs.length ∧ Hid (rowP (strs (xs.take k)) = some l ∧ l.length = k) ∧ w.heap.size ≤ wr.heap.size ∧ Hid (wr.ownsRow w.heap.size 3 1 v k (flatL encI l)) ∧ Hid (Below w.heap.size w wr))
    (fun _ i _ => xs.length - (intOf i).toNat)
  case atStart => exact ⟨0, [], rfl, Nat.zero_le _, ⟨rfl, rfl⟩, Nat.le_refl _, World.ownsRow_nil _ _ _ _, Below.refl _ _⟩
  case round =>
    obtain ⟨k, l, rfl, hk, HL, hsz, hown, hb⟩ := hrel
    by_cases hlt : k < xs.length
    · have hx : xs[k]? = some xs[k] := List.getElem?_eq_getElem hlt
      have hxs := HS.out xs[k] (List.getElem_mem hlt)
      have et : xs.take (k + 1) = xs.take k ++ [xs[k]] := List.take_succ_eq_append_getElem hlt
      have ed : xs = xs.take k ++ xs[k] :: xs.drop (k + 1) := by rw [← List.drop_eq_getElem_cons hlt, List.take_append_drop]
      generalize xs[k] = x at hx hxs et ed
      obtain ⟨b, off, rfl, hbl, hc⟩ := (HA.out.below (hb.out)) k x hx
      have hcell : wr.cell? ⟨b, off + k, none⟩ = some (.string x) := by simpa using hc 0 _ rfl
      have hlt' : (k : Int) < (xs.length : Int) := by omega
      have cn := fun W => number_any x W hxs
      cases hn : numP x.data.toList with
      | none =>
        rw [hn] at cn
        simp only [numV] at cn
        have HN : Hid (rowP (strs xs) = none) := by
          show _ = _
          unfold strs
          rw [ed, List.map_append, List.map_cons]
          exact rowP_none _ _ _ _ HL.out.1 hn
        clear hc hx et ed hn
        go_wp2_with fail
        refine (cn _).mono ?_
        rintro e w1 ⟨rfl, hb1⟩
        have HB1 := Lib.hid (bt hb.out hb1)
        clear hb1
        go_wp2_with fail
        go_ret2
        exact rowGives_none HN.out HB1.out
      | some n =>
        rw [hn] at cn
        simp only [numV] at cn
        have HN : Hid (rowP (strs (xs.take (k + 1))) = some (l ++ [n]) ∧ (l ++ [n]).length = k + 1) := by
          show _ ∧ _
          refine ⟨?_, by rw [List.length_append, HL.out.2]; rfl⟩
          unfold strs
          rw [et, List.map_append]
          exact rowP_snoc _ _ _ _ HL.out.1 hn
        clear hc hx et ed hn
        have hb1' : k + 1 ≤ maxLen := by unfold maxLen; omega
        have hb2' : (k + 1) * 8 ≤ 140737488355328 := by omega
        go_wp2_with fail
        refine (cn _).mono ?_
        rintro e w1 ⟨rfl, hb1⟩
        have HB1 := Lib.hid (bt hb.out hb1)
        have hsz1 : w.heap.size ≤ w1.heap.size := HB1.out.size
        have HO := Lib.hid ((ob hown.out hb1).alloc (.cells #[.int .i64 n] 3))
        have HO0 := Lib.hid (ob hown.out hb1)
        clear hb1 cn hcell
        go_wp2_with (at_builtin; refine wpList_append_own _ rfl _ _ 58 rfl w.heap.size 3 i0 (.int .i64 0) 1 8 Tryd.underlying58 hi hz0 hz1 hz2 rfl (by decide) _ _ _ rfl HO.out ⟨w1.heap.size, 0, none⟩ 1 1 [.int .i64 n] rfl ?c0 ?c1 ?c2 ?c3 ?c4 ?c5 ?_)
        case c0 => rfl
        case c1 => exact cells_new _ _ _
        case c2 => intro u hu; simp at hu; rcases hu with rfl; rfl
        case c3 => exact hb1'
        case c4 => exact hb2'
        case c5 => simp; omega
        intro v5 w5 hown5 hgrow5 _
        have O6 : Hid (w5.ownsRow w.heap.size 3 1 v5 (k + 1) (flatL encI (l ++ [n]))) := by
          show World.ownsRow _ _ _ _ _ _ _
          rw [flatL_append, flatL_one_]; exact hown5
        have B6 : Hid (Below w.heap.size w w5) := ((HB1.out.alloc hsz1 _).grown hgrow5 (by simp; omega) (fun j hj => (HO0.out.lt j hj).1))
        clear hown5 hgrow5 HO HO0 HB1
        go_wp2_with fail
        go_roundw
        case rel => exact ⟨k + 1, l ++ [n], by go_num, by omega, HN, B6.out.size, O6.out, B6.out⟩
        case measure => simp [intOf]; omega
    · have hlt' : ¬ (k : Int) < (xs.length : Int) := by omega
      obtain rfl : k = xs.length := by omega
      have HR : Hid (rowP (strs xs) = some l) := by
        show _ = _
        rw [← HL.out.1, List.take_length]
      have HO2 := hown.out
      rw [← HL.out.2] at HO2
      obtain ⟨B, cp, rfl, _⟩ := RowAt.of_own encI_len HO2
      have HO3 := Lib.hid HO2
      clear HO2
      by_cases hq : l.length = many
      · have hq1 : (((l.length : Nat) : Int) == (many : Int)) = true := by rw [hq]; simp
        have HQ := Lib.hid hq
        clear hq
        go_wp2_with fail
        go_ret2
        exact rowGives_some HR.out hb.out (by rw [decide_eq_true HQ.out]) HO3.out
      · have hq1 : (((l.length : Nat) : Int) == (many : Int)) = false := by simp; omega
        have HQ := Lib.hid hq
        clear hq
        go_wp2_with fail
        go_ret2
        exact rowGives_some HR.out hb.out (by rw [decide_eq_false HQ.out]) HO3.out
end Go.Proofs.YtloecpgfohhmlaaDoor
