/-
  gatefoldlaw29.PrintParted returns true: for whatever two texts; below the heap's size nothing turns.
-/
import Derived.Test.YtloecpgfohhmlaaDoorPtc
import Derived.Lib.AppendZeros
import Derived.Laws.AppendOwnNone
namespace Go.Proofs.YtloecpgfohhmlaaDoor
open Go.RowKit Go.Proofs.Prn

theorem parse_some (s : ByteArray) (m : Int) (w : World) (hs : s.size ≤ 100000) (hm : w.cell? ⟨0, 0, none⟩ = some (.int .i64 m)) :
    Calls Tryd.prog 13 #[.string s] w fun e w' => ∃ A n c z1 z2, e = .returned (.tuple #[.slice A n c, .int .i64 z1, .int .i64 z2]) ∧ Below w.heap.size w w' := by
  refine (parse_any s m w hs hm).mono fun e w' hg => ?_
  obtain ⟨⟨A, n, c⟩, he, hv, hp, hb⟩ := hg
  exact ⟨A, n, c, _, _, he, hb⟩

theorem run_append_no (w : World) (base : Nat) (v : Value) (n : Nat) (xs : List Value) (hown : w.ownsRow base 37 5 v n xs) (c : Nat) :
    (Builtin.append_ #[22, 22] 22 #[v, .slice none 0 c]).run Tryd.prog w = .ok v w := by
  obtain ⟨i0, hi, hz0, hz1, hz2⟩ := info_parts Tryd.infoPage
  have ht := Tryd.underlying22
  rcases hown.2 with ⟨rfl, rfl⟩ | ⟨g, cap, cur, rfl, _, _, hnc, _⟩
  · simp [Builtin.append_, run_underlying ht, sizeOf, typeInfo, hi, Builtin.lenOf, Builtin.firstCells]
  · simp [Builtin.append_, run_underlying ht, sizeOf, typeInfo, hi, Builtin.lenOf, Builtin.firstCells, hnc, storeCells]
theorem row_nil_none {α : Type} {enc : α → List Value} {k : Nat} {w : World} {l : List α} (h : RowAt enc k w none l) : l = [] := by
  cases l with
  | nil => rfl
  | cons x r => obtain ⟨b, off, e, _⟩ := h 0 x rfl; cases e

/-- Pages behind an own row of pages. -/
theorem run_append_pages (w : World) (base : Nat) (v : Value) (rs : List Raw) (hown : w.ownsRow base 37 5 v rs.length (flatL encR rs)) (A : Option Addr) (c : Nat) (rA : List Raw) (hA : RowAt encR 5 w A rA)
    (hn : rs.length + rA.length ≤ 1000000) (hb : base ≤ w.heap.size) :
    ∃ v' w', (Builtin.append_ #[22, 22] 22 #[v, .slice A rA.length c]).run Tryd.prog w = .ok v' w' ∧ w'.ownsRow base 37 5 v' (rs ++ rA).length (flatL encR (rs ++ rA)) ∧ w.grownBy w' v.ownBlock := by
  obtain ⟨i0, hi, hz0, hz1, hz2⟩ := info_parts Tryd.infoPage
  cases A with
  | none =>
    obtain rfl := row_nil_none hA
    refine ⟨v, w, run_append_no w base v _ _ hown c, by simpa using hown, World.grownBy.refl _ _⟩
  | some a =>
    obtain ⟨v', w', h1, h2, h3, _⟩ := run_append_own (P := Tryd.prog) w base 22 22 37 i0 _ 5 88 Tryd.underlying22 hi hz0 hz1 hz2 rfl (by decide) v rs.length (flatL encR rs) hown a rA.length c (flatL encR rA)
      (flatL_length encR_len rA) (hA.add encR_len (by decide)) (flatL_cells encR_one rA) (by unfold maxLen; omega) (by omega) hb
    exact ⟨v', w', h1, by rw [flatL_append, List.length_append]; exact h2, h3⟩

theorem join_add (a b : ByteArray) (h : a.size + b.size ≤ 100000) (w : World) : (binOp .add 9 (.string a) (.string b)).run Tryd.prog w = .ok (.string (a ++ b)) w := by
  have h1 : (binOp .add 9 (.string a) (.string b)).run Tryd.prog w = (Op.stringOp .add a b).run Tryd.prog w := by
    unfold binOp
    simp
  rw [h1]
  rw [run_string_add_sum w a b (by omega)]

/-- An append of pages behind an own row of pages, guarded or not. -/
theorem wpList_append_pages {ops : Array Oper} {rest : List Oper} {o : Oper} {a : Act} {w : World} {Q : Exit → Act → World → Prop} (hgd : Region.wanted o (yielded ops a.tmps) = true) (s x : Operand)
    (ho : o.op = .call { callee := .builtin .append, args := #[s, x], argTypes := #[22, 22] }) (hty : o.type = 22)
    (base : Nat) (v : Value) (rs : List Raw) (hs : a.eval s = v) (hown : w.ownsRow base 37 5 v rs.length (flatL encR rs)) (A : Option Addr) (n c : Nat) (rA : List Raw) (hx : a.eval x = .slice A n c) (hnl : n = rA.length) (hA : RowAt encR 5 w A rA)
    (hn : rs.length + rA.length ≤ 1000000) (hb : base ≤ w.heap.size)
    (h : ∀ v' w', w'.ownsRow base 37 5 v' (rs ++ rA).length (flatL encR (rs ++ rA)) → w.grownBy w' v.ownBlock → wpList Tryd.prog ops Q rest (a.put o.dst v') w') : wpList Tryd.prog ops Q (o :: rest) a w := by
  subst hnl
  obtain ⟨v', w', hr, h1, h2⟩ := run_append_pages w base v rs hown A c rA hA hn hb
  refine wpList_step fun K hK => ?_
  rw [if_pos hgd]
  exact Lib.wp_append_run w s x _ _ ho v _ hs hx v' w' (by rw [hty]; exact hr) (hK _ _ (h v' w' h1 h2))

set_option maxHeartbeats 8000000 in
set_option maxRecDepth 100000 in
theorem parted_long (a b : ByteArray) (m : Int) (w : World) (hT : Tab w) (hm : w.cell? ⟨0, 0, none⟩ = some (.int .i64 m)) (ha : a.size ≤ 9223372036854775807) (hb : b.size ≤ 9223372036854775807) (h : 2500 < a.size ∨ 2500 < b.size) :
    Calls Tryd.prog 6 #[.string a, .string b] w fun e w' => e = .returned (.bool true) ∧ Below w.heap.size w w' := by
  have HC := Lib.hid (awake_any m w hm hT)
  clear hT hm
  by_cases h1 : (2500 : Int) < (a.size : Int)
  · clear h
    go_enter Tryd.func6, Tryd.ntmps6
    go_wp2_with fail
    refine HC.out.mono ?_
    rintro e w1 ⟨rfl, hb1⟩
    go_wp2_with fail
    go_ret
    exact ⟨rfl, hb1⟩
  · have h2 : (2500 : Int) < (b.size : Int) := by omega
    clear h
    go_enter Tryd.func6, Tryd.ntmps6
    go_wp2_with fail
    refine HC.out.mono ?_
    rintro e w1 ⟨rfl, hb1⟩
    go_wp2_with fail
    go_ret
    exact ⟨rfl, hb1⟩

set_option maxHeartbeats 8000000 in
set_option maxRecDepth 100000 in
theorem parted_both (a b : ByteArray) (m : Int) (w : World) (hT : Tab w) (hm : w.cell? ⟨0, 0, none⟩ = some (.int .i64 m)) (ha : a.size ≤ 2500) (hb : b.size ≤ 2500) (l r : List Page) (hl : parseP a.data.toList = (l, 0, 0)) (hr : parseP b.data.toList = (r, 0, 0)) :
    Calls Tryd.prog 6 #[.string a, .string b] w fun e w' => e = .returned (.bool true) ∧ Below w.heap.size w w' := by
  have hab : (a ++ b).size ≤ 100000 := by rw [ByteArray.size_append]; omega
  have hpab : parseP (a ++ b).data.toList = (l ++ r, 0, 0) := by
    rw [ByteArray.data_append, Array.toList_append]
    exact parse_app hl hr
  have h1 : ¬ (2500 : Int) < (a.size : Int) := by omega
  have h2 : ¬ (2500 : Int) < (b.size : Int) := by omega
  have hadd := join_add a b (by omega)
  have HX0 := Lib.hid (Ctx.start hT hm)
  have HL := Lib.hid hl
  have HR := Lib.hid hr
  have HLR := Lib.hid hpab
  clear hT hm hl hr hpab
  go_enter Tryd.func6, Tryd.ntmps6
  go_wp2_with fail
  refine (parse_ok a l m _ (by omega) HX0.out.len HL.out).mono ?_
  rintro e w1 ⟨A, c, rfl, hp1, hb1⟩
  have HX1 := Lib.hid (HX0.out.on hb1)
  have HP1 := Lib.hid hp1
  clear hb1 hp1 HX0
  go_wp2_with fail
  refine (parse_ok b r m _ (by omega) HX1.out.len HR.out).mono ?_
  rintro e w2 ⟨B, d, rfl, hp2, hb2⟩
  have HX2 := Lib.hid (HX1.out.on hb2)
  have HP2 := Lib.hid (HP1.out.below hb2)
  have HQ2 := Lib.hid hp2
  clear hb2 hp2 HX1 HP1
  go_wp2_with fail
  refine (parse_ok (a ++ b) (l ++ r) m _ hab HX2.out.len HLR.out).mono ?_
  rintro e w3 ⟨C, f, rfl, hp3, hb3⟩
  have HX3 := Lib.hid (HX2.out.on hb3)
  have HP3 := Lib.hid (HP2.out.below hb3)
  have HQ3 := Lib.hid (HQ2.out.below hb3)
  have HC3 := Lib.hid hp3
  clear hb3 hp3 HX2 HP2 HQ2
  obtain ⟨rl, el, ql, gl⟩ := HP3.out
  obtain ⟨rr, er, qr, gr⟩ := HQ3.out
  have hcl := pages_count l
  have hcr := pages_count r
  have HO : Hid ((w3.alloc (.cells #[] 37)).ownsRow w3.heap.size 37 5 (.slice (some ⟨w3.heap.size, 0, none⟩) 0 0) ([] : List Raw).length (flatL encR [])) := by
    have := World.ownsRow_made (base := w3.heap.size) (e := 37) (size := 5) w3 #[] 0 (by simp) (Nat.zero_le _) (by simp)
    show World.ownsRow _ _ _ _ _ _ _
    simpa [flatL] using this
  have hll : l.length ≤ 2500 := by
    have := (write_parse HL.out).2.2
    have e := congrArg List.length this
    rw [size_list] at e
    omega
  have hlr : r.length ≤ 2500 := by
    have := (write_parse HR.out).2.2
    have e := congrArg List.length this
    rw [size_list] at e
    omega
  clear hcl hcr
  go_wp2_with (at_builtin; refine wpList_append_pages (by rfl) _ _ (by rfl) (by rfl) w3.heap.size _ [] (by rfl) HO.out A l.length c rl (by rfl) el.symm (ql.below (bl (Below.refl _ _) _)) (by simp; omega) (by simp) ?_)
  intro v4 w4 own4 grow4
  have hb4 : Below w3.heap.size w3 w4 := (bl (Below.refl _ _) (.cells #[] 37)).grown grow4 (by simp) (by intro k hk; simp [Value.ownBlock] at hk; omega)
  have HW4 : Hid (w4.ownsRow w3.heap.size 37 5 v4 rl.length (flatL encR rl)) := by
    show World.ownsRow _ _ _ _ _ _ _
    rw [el]
    exact own4
  have HB4 := Lib.hid hb4
  clear own4 grow4 HO hb4
  go_wp2_with (at_builtin; refine wpList_append_pages (by rfl) _ _ (by rfl) (by rfl) w3.heap.size v4 rl (by rfl) HW4.out B r.length d rr (by rfl) er.symm (qr.below HB4.out) (by omega) HB4.out.size ?_)
  intro v5 w5 own5 grow5
  have hb5 : Below w3.heap.size w3 w5 := HB4.out.grown grow5 HB4.out.size (by intro k hk; exact (HW4.out.lt k hk).1)
  have hlen : (rl ++ rr).length = (l ++ r).length := by simp [el, er]
  have own5' : w5.ownsRow w3.heap.size 37 5 v5 (rl ++ rr).length (flatL encR (rl ++ rr)) := by
    first | exact own5 | (simp only [List.length_append]; exact own5) | (rw [hlen]; simpa using own5)
  obtain ⟨E, g, rfl, hE, _⟩ := RowAt.of_own encR_len own5'
  have HE : Hid (PagesAt w5 E (l ++ r)) := by
    refine ⟨rl ++ rr, hlen, hE, fun i q p hq hp => ?_⟩
    rcases Nat.lt_or_ge i rl.length with hi | hi
    · rw [List.getElem?_append_left hi] at hq
      rw [List.getElem?_append_left (by omega)] at hp
      exact (gl i q p hq hp).below hb5
    · rw [List.getElem?_append_right hi] at hq
      rw [List.getElem?_append_right (by omega), ← el] at hp
      exact (gr _ q p hq hp).below hb5
  rw [hlen, List.length_append]
  have HC5 := Lib.hid (HC3.out.below hb5)
  have HX5 := Lib.hid (HX3.out.on hb5)
  have hcc := pages_count (l ++ r)
  have hcs : (pagesB (l ++ r)).length ≤ 5000 := by
    have := (write_parse HLR.out).2.2
    have e := congrArg List.length this
    rw [size_list, ByteArray.size_append] at e
    omega
  have cs := rsame_any C E f g (l ++ r) (l ++ r) w5 HC5.out HE.out (by omega) (small_of (by omega))
  rw [same_self, List.length_append] at cs
  have HCS := Lib.hid cs
  clear cs HB4 HW4 hb5 own5 own5' grow5 hE HX3 HC3 hcc hcs
  go_wp2_with fail
  refine HCS.out.mono ?_
  rintro e w6 ⟨rfl, hb6⟩
  have HX6 := Lib.hid (HX5.out.on hb6)
  clear HCS HX5 hb6
  go_wp2_with fail
  refine (awake_any m _ HX6.out.len HX6.out.tab).mono ?_
  rintro e w7 ⟨rfl, hb7⟩
  have HX7 := Lib.hid (HX6.out.on hb7)
  clear HX6 hb7
  go_wp2_with fail
  go_ret
  exact ⟨rfl, HX7.out.below⟩
end Go.Proofs.YtloecpgfohhmlaaDoor
