/-
  gatefoldlaw29.PrintBack returns true: for whatever pages, other pages, text; below the heap's size nothing turns.
-/
import Derived.Test.YtloecpgfohhmlaaDoorPtb
namespace Go.Proofs.YtloecpgfohhmlaaDoor
open Go.RowKit Go.Proofs.Prn

theorem line_pos (w : Bytes) (l : List Int) : 1 ≤ (lineB w l).length := by simp [lineB]
theorem frags_count (w : Bytes) (l : List Frag) : l.length ≤ (fragsB w l).length := by
  induction l with
  | nil => exact Nat.le_refl _
  | cons f r ih => have := line_pos w f.nums; simp only [fragsB, List.length_append, List.length_cons]; omega
theorem pages_count (ps : List Page) : ps.length + partsN ps ≤ (pagesB ps).length := by
  induction ps with
  | nil => exact Nat.le_refl _
  | cons p r ih =>
    have h0 := line_pos wPage p.nums
    have h1 := frags_count wHead p.heads
    have h2 := frags_count wFlow p.flow
    have h3 := frags_count wFloat p.floats
    simp only [pagesB, pageB, List.length_append, List.length_cons, partsN]
    omega
theorem i64_near {l : List Int} (h : nearL l = true) : ∀ n ∈ l, I64 n := fun n hn => by
  have := (nearB_iff n).1 (List.all_eq_true.1 h n hn)
  exact ⟨by omega, by omega⟩
theorem p64_near {ps : List Page} (h : nearP ps = true) : ∀ p ∈ ps, P64 p := fun p hp => by
  have hq := List.all_eq_true.1 h p hp
  simp only [Page.near, Bool.and_eq_true] at hq
  obtain ⟨⟨⟨h0, h1⟩, h2⟩, h3⟩ := hq
  refine ⟨i64_near h0, fun k f hf => ?_⟩
  match k, hf with
  | 0, hf => exact i64_near (List.all_eq_true.1 h1 f hf)
  | 1, hf => exact i64_near (List.all_eq_true.1 h2 f hf)
  | k + 2, hf => exact i64_near (List.all_eq_true.1 h3 f hf)
theorem small_of {ps : List Page} (h : partsN ps ≤ 1000000) : ∀ p ∈ ps, PgSmall p := by
  induction ps with
  | nil => intro p hp; cases hp
  | cons q r ih =>
    intro p hp
    simp only [partsN] at h
    rcases List.mem_cons.1 hp with rfl | hp
    · exact ⟨by omega, by omega, by omega⟩
    · exact ih (by omega) p hp
theorem long_no (A : Option Addr) (c : Nat) (ps : List Page) (w : World) (hA : PagesAt w A ps) (hf : ∀ p ∈ ps, PgFit p) (hm : ps.length ≤ maxLen) (h : longB ps = false) :
    Calls Tryd.prog 7 #[.slice A ps.length c] w fun e w' => e = .returned (.bool false) ∧ Below w.heap.size w w' := by
  have := long_any A c ps w hA hf hm
  rw [h] at this
  exact this
theorem write_ok (A : Option Addr) (c : Nat) (ps : List Page) (w : World) (hA : PagesAt w A ps) (hn : ps.length ≤ 10000) (hp : partsN ps ≤ 10000) (h64 : ∀ p ∈ ps, P64 p) (hT : Tab w) (h : nearP ps = true) :
    Calls Tryd.prog 10 #[.slice A ps.length c] w fun e w' => e = .returned (.tuple #[.string (bs (pagesB ps)), .int .i64 0]) ∧ Below w.heap.size w w' := by
  have := write_pages A c ps w hA hn hp h64 hT
  unfold writeP at this
  rw [if_pos h] at this
  exact this
theorem write_no (A : Option Addr) (c : Nat) (ps : List Page) (w : World) (hA : PagesAt w A ps) (hn : ps.length ≤ 10000) (hp : partsN ps ≤ 10000) (h64 : ∀ p ∈ ps, P64 p) (hT : Tab w) (h : nearP ps = false) :
    Calls Tryd.prog 10 #[.slice A ps.length c] w fun e w' => e = .returned (.tuple #[.string ⟨#[]⟩, .int .i64 4]) ∧ Below w.heap.size w w' := by
  have := write_pages A c ps w hA hn hp h64 hT
  unfold writeP at this
  rw [if_neg (by rw [h]; decide)] at this
  exact this

/-- What the walk of a law knows of the world it stands in. -/
structure Ctx (w W : World) (m : Int) : Prop where
  below : Below w.heap.size w W
  tab : Tab W
  len : W.cell? ⟨0, 0, none⟩ = some (.int .i64 m)
theorem Ctx.on {w W W' : World} {m : Int} (h : Ctx w W m) (hb : Below W.heap.size W W') : Ctx w W' m :=
  ⟨bt h.below hb, h.tab.below hb, (hb.cell (World.block_lt_of_cell? _ _ h.len)).trans h.len⟩
theorem Ctx.start {w : World} {m : Int} (hT : Tab w) (hm : w.cell? ⟨0, 0, none⟩ = some (.int .i64 m)) : Ctx w w m := ⟨Below.refl _ _, hT, hm⟩


set_option maxHeartbeats 8000000 in
set_option maxRecDepth 100000 in
theorem back_long (A B : Option Addr) (c d : Nat) (ps qs : List Page) (s : ByteArray) (m : Int) (w : World) (hA : PagesAt w A ps) (hB : PagesAt w B qs) (hfA : ∀ p ∈ ps, PgFit p) (hfB : ∀ p ∈ qs, PgFit p) (_h6A : ∀ p ∈ ps, P64 p) (_h6B : ∀ p ∈ qs, P64 p)
    (hlA : ps.length ≤ maxLen) (hlB : qs.length ≤ maxLen) (hs : s.size ≤ 9223372036854775807) (hT : Tab w) (hm : w.cell? ⟨0, 0, none⟩ = some (.int .i64 m)) (h : longB ps = true ∨ longB qs = true ∨ 5000 < s.size) :
    Calls Tryd.prog 5 #[.slice A ps.length c, .slice B qs.length d, .string s] w fun e w' => e = .returned (.bool true) ∧ Below w.heap.size w w' := by
  have hx := Ctx.start hT hm
  have HX := Lib.hid hx
  have c1 := long_any A c ps w hA hfA hlA
  have HB := Lib.hid hB
  have c2 := fun (W : World) (hb : Below w.heap.size w W) => long_any B d qs W (HB.out.below hb) hfB hlB
  have c3 := fun (W : World) (hb : Below w.heap.size w W) => awake_any m W (HX.out.on hb).len (HX.out.on hb).tab
  have H1 := Lib.hid c1
  have H2 := Lib.hid c2
  have H3 := Lib.hid c3
  clear hx c1 c2 c3 hA hB hT hm hfA hfB hlA hlB _h6A _h6B
  cases h1 : longB ps with
  | true =>
    rw [h1] at H1
    clear h h1
    go_enter Tryd.func5, Tryd.ntmps5
    go_wp2_with fail
    refine H1.out.mono ?_
    rintro e w1 ⟨rfl, hb1⟩
    go_wp2_with fail
    refine (H3.out _ hb1).mono ?_
    rintro e w2 ⟨rfl, hb2⟩
    go_wp2_with fail
    go_ret
    exact ⟨rfl, bt hb1 hb2⟩
  | false =>
    rw [h1] at H1
    cases h2 : longB qs with
    | true =>
      rw [h2] at H2
      clear h h1 h2
      go_enter Tryd.func5, Tryd.ntmps5
      go_wp2_with fail
      refine H1.out.mono ?_
      rintro e w1 ⟨rfl, hb1⟩
      go_wp2_with fail
      refine (H2.out _ hb1).mono ?_
      rintro e w2 ⟨rfl, hb2⟩
      have hb2 := bt hb1 hb2
      go_wp2_with fail
      refine (H3.out _ hb2).mono ?_
      rintro e w3 ⟨rfl, hb3⟩
      go_wp2_with fail
      go_ret
      exact ⟨rfl, bt hb2 hb3⟩
    | false =>
      rw [h2] at H2
      have h5 : (5000 : Int) < (s.size : Int) := by
        rw [h1, h2] at h
        simp at h
        omega
      clear h h1 h2
      go_enter Tryd.func5, Tryd.ntmps5
      go_wp2_with fail
      refine H1.out.mono ?_
      rintro e w1 ⟨rfl, hb1⟩
      go_wp2_with fail
      refine (H2.out _ hb1).mono ?_
      rintro e w2 ⟨rfl, hb2⟩
      have hb2 := bt hb1 hb2
      go_wp2_with fail
      refine (H3.out _ hb2).mono ?_
      rintro e w3 ⟨rfl, hb3⟩
      go_wp2_with fail
      go_ret
      exact ⟨rfl, bt hb2 hb3⟩

set_option maxHeartbeats 8000000 in
set_option maxRecDepth 100000 in
theorem back_ytte (A B : Option Addr) (c d : Nat) (ps qs : List Page) (s : ByteArray) (m : Int) (w : World) (hA : PagesAt w A ps) (hB : PagesAt w B qs) (hfA : ∀ p ∈ ps, PgFit p) (hfB : ∀ p ∈ qs, PgFit p) (h6A : ∀ p ∈ ps, P64 p) (h6B : ∀ p ∈ qs, P64 p)
    (hlA : ps.length ≤ maxLen) (hlB : qs.length ≤ maxLen) (hs : s.size ≤ 9223372036854775807) (hT : Tab w) (hm : w.cell? ⟨0, 0, none⟩ = some (.int .i64 m)) (h1 : longB ps = false) (h2 : longB qs = false) (h5 : s.size ≤ 5000) (hn1 : nearP ps = true) (hn2 : nearP qs = true) (heq : ps = qs) (rs : List Page) (hps : parseP s.data.toList = (rs, 0, 0)) :
    Calls Tryd.prog 5 #[.slice A ps.length c, .slice B qs.length d, .string s] w fun e w' => e = .returned (.bool true) ∧ Below w.heap.size w w' := by
  obtain ⟨q1, q2⟩ := longB_false h1
  obtain ⟨q3, q4⟩ := longB_false h2
  have h5' : ¬ (5000 : Int) < (s.size : Int) := by omega
  have HX0 := Lib.hid (Ctx.start hT hm)
  have HP0 := Lib.hid hA
  have HQ0 := Lib.hid hB
  have hsm := small_of (ps := ps) (by omega)
  have HSM := Lib.hid hsm
  have HF := Lib.hid hfA
  have HG := Lib.hid hfB
  have H6 := Lib.hid h6A
  have H7 := Lib.hid h6B
  have HL1 := Lib.hid h1
  have HL2 := Lib.hid h2
  clear hA hB hfA hfB h6A h6B hT hm hsm h1 h2
  have HN1 := Lib.hid hn1
  have HN2 := Lib.hid hn2
  have HSZ : Hid ((bs (pagesB ps)).size ≤ 100000) := by
    show _ ≤ _
    rw [bs_size]
    have := pages_short ps H6.out
    omega
  have HPW : Hid (parseP (bs (pagesB ps)).data.toList = (ps, 0, 0)) := parse_write ps HN1.out
  have hbb : ((bs (pagesB ps)).toList == (bs (pagesB qs)).toList) = true := by rw [heq]; simp
  have HEQ : Hid (sameL ps qs = true) := by show _ = _; rw [heq]; exact same_self _
  clear heq
  clear hn1 hn2
  obtain ⟨hr1, _, hr2⟩ := write_parse hps
  have hpc := pages_count rs
  have hpl : (pagesB rs).length = s.size := by rw [hr2, size_list]
  have HPB : Hid (bs (pagesB rs) = s) := by show _ = _; rw [hr2, bs_self]
  have HR6 := Lib.hid (p64_near hr1)
  have HNR := Lib.hid hr1
  have HPS := Lib.hid hps
  have hself : (s.toList == s.toList) = true := by simp
  clear hps hr1 hr2
  go_enter Tryd.func5, Tryd.ntmps5
  go_wp2_with fail
  refine (long_no A c ps w HP0.out HF.out hlA HL1.out).mono ?_
  rintro e w1 ⟨rfl, hb⟩
  have HX1 := Lib.hid (HX0.out.on hb)
  have HP1 := Lib.hid (HP0.out.below hb)
  have HQ1 := Lib.hid (HQ0.out.below hb)
  clear hb HX0 HP0 HQ0
  go_wp2_with fail
  refine (long_no B d qs _ HQ1.out HG.out hlB HL2.out).mono ?_
  rintro e w2 ⟨rfl, hb⟩
  have HX2 := Lib.hid (HX1.out.on hb)
  have HP2 := Lib.hid (HP1.out.below hb)
  have HQ2 := Lib.hid (HQ1.out.below hb)
  clear hb HX1 HP1 HQ1
  go_wp2_with fail
  refine (write_ok A c ps _ HP2.out (by omega) (by omega) H6.out HX2.out.tab HN1.out).mono ?_
  rintro e w3 ⟨rfl, hb⟩
  have HX3 := Lib.hid (HX2.out.on hb)
  have HP3 := Lib.hid (HP2.out.below hb)
  have HQ3 := Lib.hid (HQ2.out.below hb)
  clear hb HX2 HP2 HQ2
  go_wp2_with fail
  refine (write_ok B d qs _ HQ3.out (by omega) (by omega) H7.out HX3.out.tab HN2.out).mono ?_
  rintro e w4 ⟨rfl, hb⟩
  have HX4 := Lib.hid (HX3.out.on hb)
  have HP4 := Lib.hid (HP3.out.below hb)
  have HQ4 := Lib.hid (HQ3.out.below hb)
  clear hb HX3 HP3 HQ3
  go_wp2_with fail
  refine (parse_ok (bs (pagesB ps)) ps m _ HSZ.out HX4.out.len HPW.out).mono ?_
  rintro e w5 ⟨A5, c5, rfl, hp5, hb⟩
  have HR5 := Lib.hid hp5
  have HX5 := Lib.hid (HX4.out.on hb)
  have HP5 := Lib.hid (HP4.out.below hb)
  have HQ5 := Lib.hid (HQ4.out.below hb)
  clear hb hp5 HX4 HP4 HQ4
  go_wp2_with fail
  have cs := rsame_any A5 A c5 c ps ps w5 HR5.out HP5.out (by omega) HSM.out
  rw [same_self] at cs
  refine (cs).mono ?_
  rintro e w6 ⟨rfl, hb⟩
  have HX6 := Lib.hid (HX5.out.on hb)
  have HP6 := Lib.hid (HP5.out.below hb)
  have HQ6 := Lib.hid (HQ5.out.below hb)
  clear hb HX5 HP5 HQ5
  clear cs HR5
  go_wp2_with fail
  have cs := rsame_any A B c d ps qs w6 HP6.out HQ6.out (by omega) HSM.out
  rw [HEQ.out] at cs
  refine (cs).mono ?_
  rintro e w7 ⟨rfl, hb⟩
  have HX7 := Lib.hid (HX6.out.on hb)
  have HP7 := Lib.hid (HP6.out.below hb)
  have HQ7 := Lib.hid (HQ6.out.below hb)
  clear hb HX6 HP6 HQ6
  clear cs
  go_wp2_with fail
  refine (parse_ok s rs m _ (by omega) HX7.out.len HPS.out).mono ?_
  rintro e w8 ⟨A9, c9, rfl, hp9, hb⟩
  have HX8 := Lib.hid (HX7.out.on hb)
  have HR := Lib.hid hp9
  clear hb hp9 HX7 HP7 HQ7
  go_wp2_with fail
  refine (write_ok A9 c9 rs _ HR.out (by omega) (by omega) HR6.out HX8.out.tab HNR.out).mono ?_
  rintro e w9 ⟨rfl, hb⟩
  have HX9 := Lib.hid (HX8.out.on hb)
  clear hb HX8 HR
  rw [HPB.out]
  go_wp2_with fail
  refine (awake_any m _ HX9.out.len HX9.out.tab).mono ?_
  rintro e w10 ⟨rfl, hb⟩
  have HX10 := Lib.hid (HX9.out.on hb)
  clear hb HX9 
  go_wp2_with fail
  go_ret
  exact ⟨rfl, HX10.out.below⟩

set_option maxHeartbeats 8000000 in
set_option maxRecDepth 100000 in
theorem back_yttd (A B : Option Addr) (c d : Nat) (ps qs : List Page) (s : ByteArray) (m : Int) (w : World) (hA : PagesAt w A ps) (hB : PagesAt w B qs) (hfA : ∀ p ∈ ps, PgFit p) (hfB : ∀ p ∈ qs, PgFit p) (h6A : ∀ p ∈ ps, P64 p) (h6B : ∀ p ∈ qs, P64 p)
    (hlA : ps.length ≤ maxLen) (hlB : qs.length ≤ maxLen) (hs : s.size ≤ 9223372036854775807) (hT : Tab w) (hm : w.cell? ⟨0, 0, none⟩ = some (.int .i64 m)) (h1 : longB ps = false) (h2 : longB qs = false) (h5 : s.size ≤ 5000) (hn1 : nearP ps = true) (hn2 : nearP qs = true) (heq : ps ≠ qs) (rs : List Page) (hps : parseP s.data.toList = (rs, 0, 0)) :
    Calls Tryd.prog 5 #[.slice A ps.length c, .slice B qs.length d, .string s] w fun e w' => e = .returned (.bool true) ∧ Below w.heap.size w w' := by
  obtain ⟨q1, q2⟩ := longB_false h1
  obtain ⟨q3, q4⟩ := longB_false h2
  have h5' : ¬ (5000 : Int) < (s.size : Int) := by omega
  have HX0 := Lib.hid (Ctx.start hT hm)
  have HP0 := Lib.hid hA
  have HQ0 := Lib.hid hB
  have hsm := small_of (ps := ps) (by omega)
  have HSM := Lib.hid hsm
  have HF := Lib.hid hfA
  have HG := Lib.hid hfB
  have H6 := Lib.hid h6A
  have H7 := Lib.hid h6B
  have HL1 := Lib.hid h1
  have HL2 := Lib.hid h2
  clear hA hB hfA hfB h6A h6B hT hm hsm h1 h2
  have HN1 := Lib.hid hn1
  have HN2 := Lib.hid hn2
  have HSZ : Hid ((bs (pagesB ps)).size ≤ 100000) := by
    show _ ≤ _
    rw [bs_size]
    have := pages_short ps H6.out
    omega
  have HPW : Hid (parseP (bs (pagesB ps)).data.toList = (ps, 0, 0)) := parse_write ps HN1.out
  have hbb : ((bs (pagesB ps)).toList == (bs (pagesB qs)).toList) = false := by
    rw [beq_eq_false_iff_ne]
    intro e
    rw [ByteArray.toList_eq, ByteArray.toList_eq, bs_list, bs_list] at e
    exact heq (pagesB_inj hn1 hn2 e)
  have HEQ : Hid (sameL ps qs = false) := same_ne heq
  clear heq
  clear hn1 hn2
  obtain ⟨hr1, _, hr2⟩ := write_parse hps
  have hpc := pages_count rs
  have hpl : (pagesB rs).length = s.size := by rw [hr2, size_list]
  have HPB : Hid (bs (pagesB rs) = s) := by show _ = _; rw [hr2, bs_self]
  have HR6 := Lib.hid (p64_near hr1)
  have HNR := Lib.hid hr1
  have HPS := Lib.hid hps
  have hself : (s.toList == s.toList) = true := by simp
  clear hps hr1 hr2
  go_enter Tryd.func5, Tryd.ntmps5
  go_wp2_with fail
  refine (long_no A c ps w HP0.out HF.out hlA HL1.out).mono ?_
  rintro e w1 ⟨rfl, hb⟩
  have HX1 := Lib.hid (HX0.out.on hb)
  have HP1 := Lib.hid (HP0.out.below hb)
  have HQ1 := Lib.hid (HQ0.out.below hb)
  clear hb HX0 HP0 HQ0
  go_wp2_with fail
  refine (long_no B d qs _ HQ1.out HG.out hlB HL2.out).mono ?_
  rintro e w2 ⟨rfl, hb⟩
  have HX2 := Lib.hid (HX1.out.on hb)
  have HP2 := Lib.hid (HP1.out.below hb)
  have HQ2 := Lib.hid (HQ1.out.below hb)
  clear hb HX1 HP1 HQ1
  go_wp2_with fail
  refine (write_ok A c ps _ HP2.out (by omega) (by omega) H6.out HX2.out.tab HN1.out).mono ?_
  rintro e w3 ⟨rfl, hb⟩
  have HX3 := Lib.hid (HX2.out.on hb)
  have HP3 := Lib.hid (HP2.out.below hb)
  have HQ3 := Lib.hid (HQ2.out.below hb)
  clear hb HX2 HP2 HQ2
  go_wp2_with fail
  refine (write_ok B d qs _ HQ3.out (by omega) (by omega) H7.out HX3.out.tab HN2.out).mono ?_
  rintro e w4 ⟨rfl, hb⟩
  have HX4 := Lib.hid (HX3.out.on hb)
  have HP4 := Lib.hid (HP3.out.below hb)
  have HQ4 := Lib.hid (HQ3.out.below hb)
  clear hb HX3 HP3 HQ3
  go_wp2_with fail
  refine (parse_ok (bs (pagesB ps)) ps m _ HSZ.out HX4.out.len HPW.out).mono ?_
  rintro e w5 ⟨A5, c5, rfl, hp5, hb⟩
  have HR5 := Lib.hid hp5
  have HX5 := Lib.hid (HX4.out.on hb)
  have HP5 := Lib.hid (HP4.out.below hb)
  have HQ5 := Lib.hid (HQ4.out.below hb)
  clear hb hp5 HX4 HP4 HQ4
  go_wp2_with fail
  have cs := rsame_any A5 A c5 c ps ps w5 HR5.out HP5.out (by omega) HSM.out
  rw [same_self] at cs
  refine (cs).mono ?_
  rintro e w6 ⟨rfl, hb⟩
  have HX6 := Lib.hid (HX5.out.on hb)
  have HP6 := Lib.hid (HP5.out.below hb)
  have HQ6 := Lib.hid (HQ5.out.below hb)
  clear hb HX5 HP5 HQ5
  clear cs HR5
  go_wp2_with fail
  have cs := rsame_any A B c d ps qs w6 HP6.out HQ6.out (by omega) HSM.out
  rw [HEQ.out] at cs
  refine (cs).mono ?_
  rintro e w7 ⟨rfl, hb⟩
  have HX7 := Lib.hid (HX6.out.on hb)
  have HP7 := Lib.hid (HP6.out.below hb)
  have HQ7 := Lib.hid (HQ6.out.below hb)
  clear hb HX6 HP6 HQ6
  clear cs
  go_wp2_with fail
  refine (parse_ok s rs m _ (by omega) HX7.out.len HPS.out).mono ?_
  rintro e w8 ⟨A9, c9, rfl, hp9, hb⟩
  have HX8 := Lib.hid (HX7.out.on hb)
  have HR := Lib.hid hp9
  clear hb hp9 HX7 HP7 HQ7
  go_wp2_with fail
  refine (write_ok A9 c9 rs _ HR.out (by omega) (by omega) HR6.out HX8.out.tab HNR.out).mono ?_
  rintro e w9 ⟨rfl, hb⟩
  have HX9 := Lib.hid (HX8.out.on hb)
  clear hb HX8 HR
  rw [HPB.out]
  go_wp2_with fail
  refine (awake_any m _ HX9.out.len HX9.out.tab).mono ?_
  rintro e w10 ⟨rfl, hb⟩
  have HX10 := Lib.hid (HX9.out.on hb)
  clear hb HX9 
  go_wp2_with fail
  go_ret
  exact ⟨rfl, HX10.out.below⟩

set_option maxHeartbeats 8000000 in
set_option maxRecDepth 100000 in
theorem back_ytf (A B : Option Addr) (c d : Nat) (ps qs : List Page) (s : ByteArray) (m : Int) (w : World) (hA : PagesAt w A ps) (hB : PagesAt w B qs) (hfA : ∀ p ∈ ps, PgFit p) (hfB : ∀ p ∈ qs, PgFit p) (h6A : ∀ p ∈ ps, P64 p) (h6B : ∀ p ∈ qs, P64 p)
    (hlA : ps.length ≤ maxLen) (hlB : qs.length ≤ maxLen) (hs : s.size ≤ 9223372036854775807) (hT : Tab w) (hm : w.cell? ⟨0, 0, none⟩ = some (.int .i64 m)) (h1 : longB ps = false) (h2 : longB qs = false) (h5 : s.size ≤ 5000) (hn1 : nearP ps = true) (hn2 : nearP qs = false) (rs : List Page) (hps : parseP s.data.toList = (rs, 0, 0)) :
    Calls Tryd.prog 5 #[.slice A ps.length c, .slice B qs.length d, .string s] w fun e w' => e = .returned (.bool true) ∧ Below w.heap.size w w' := by
  obtain ⟨q1, q2⟩ := longB_false h1
  obtain ⟨q3, q4⟩ := longB_false h2
  have h5' : ¬ (5000 : Int) < (s.size : Int) := by omega
  have HX0 := Lib.hid (Ctx.start hT hm)
  have HP0 := Lib.hid hA
  have HQ0 := Lib.hid hB
  have hsm := small_of (ps := ps) (by omega)
  have HSM := Lib.hid hsm
  have HF := Lib.hid hfA
  have HG := Lib.hid hfB
  have H6 := Lib.hid h6A
  have H7 := Lib.hid h6B
  have HL1 := Lib.hid h1
  have HL2 := Lib.hid h2
  clear hA hB hfA hfB h6A h6B hT hm hsm h1 h2
  have HN1 := Lib.hid hn1
  have HN2 := Lib.hid hn2
  have HSZ : Hid ((bs (pagesB ps)).size ≤ 100000) := by
    show _ ≤ _
    rw [bs_size]
    have := pages_short ps H6.out
    omega
  have HPW : Hid (parseP (bs (pagesB ps)).data.toList = (ps, 0, 0)) := parse_write ps HN1.out
  clear hn1 hn2
  obtain ⟨hr1, _, hr2⟩ := write_parse hps
  have hpc := pages_count rs
  have hpl : (pagesB rs).length = s.size := by rw [hr2, size_list]
  have HPB : Hid (bs (pagesB rs) = s) := by show _ = _; rw [hr2, bs_self]
  have HR6 := Lib.hid (p64_near hr1)
  have HNR := Lib.hid hr1
  have HPS := Lib.hid hps
  have hself : (s.toList == s.toList) = true := by simp
  clear hps hr1 hr2
  go_enter Tryd.func5, Tryd.ntmps5
  go_wp2_with fail
  refine (long_no A c ps w HP0.out HF.out hlA HL1.out).mono ?_
  rintro e w1 ⟨rfl, hb⟩
  have HX1 := Lib.hid (HX0.out.on hb)
  have HP1 := Lib.hid (HP0.out.below hb)
  have HQ1 := Lib.hid (HQ0.out.below hb)
  clear hb HX0 HP0 HQ0
  go_wp2_with fail
  refine (long_no B d qs _ HQ1.out HG.out hlB HL2.out).mono ?_
  rintro e w2 ⟨rfl, hb⟩
  have HX2 := Lib.hid (HX1.out.on hb)
  have HP2 := Lib.hid (HP1.out.below hb)
  have HQ2 := Lib.hid (HQ1.out.below hb)
  clear hb HX1 HP1 HQ1
  go_wp2_with fail
  refine (write_ok A c ps _ HP2.out (by omega) (by omega) H6.out HX2.out.tab HN1.out).mono ?_
  rintro e w3 ⟨rfl, hb⟩
  have HX3 := Lib.hid (HX2.out.on hb)
  have HP3 := Lib.hid (HP2.out.below hb)
  have HQ3 := Lib.hid (HQ2.out.below hb)
  clear hb HX2 HP2 HQ2
  go_wp2_with fail
  refine (write_no B d qs _ HQ3.out (by omega) (by omega) H7.out HX3.out.tab HN2.out).mono ?_
  rintro e w4 ⟨rfl, hb⟩
  have HX4 := Lib.hid (HX3.out.on hb)
  have HP4 := Lib.hid (HP3.out.below hb)
  have HQ4 := Lib.hid (HQ3.out.below hb)
  clear hb HX3 HP3 HQ3
  go_wp2_with fail
  refine (parse_ok (bs (pagesB ps)) ps m _ HSZ.out HX4.out.len HPW.out).mono ?_
  rintro e w5 ⟨A5, c5, rfl, hp5, hb⟩
  have HR5 := Lib.hid hp5
  have HX5 := Lib.hid (HX4.out.on hb)
  have HP5 := Lib.hid (HP4.out.below hb)
  have HQ5 := Lib.hid (HQ4.out.below hb)
  clear hb hp5 HX4 HP4 HQ4
  go_wp2_with fail
  have cs := rsame_any A5 A c5 c ps ps w5 HR5.out HP5.out (by omega) HSM.out
  rw [same_self] at cs
  refine (cs).mono ?_
  rintro e w6 ⟨rfl, hb⟩
  have HX6 := Lib.hid (HX5.out.on hb)
  have HP6 := Lib.hid (HP5.out.below hb)
  have HQ6 := Lib.hid (HQ5.out.below hb)
  clear hb HX5 HP5 HQ5
  clear cs HR5
  go_wp2_with fail
  refine (parse_ok s rs m _ (by omega) HX6.out.len HPS.out).mono ?_
  rintro e w7 ⟨A9, c9, rfl, hp9, hb⟩
  have HX7 := Lib.hid (HX6.out.on hb)
  have HR := Lib.hid hp9
  clear hb hp9 HX6 HP6 HQ6
  go_wp2_with fail
  refine (write_ok A9 c9 rs _ HR.out (by omega) (by omega) HR6.out HX7.out.tab HNR.out).mono ?_
  rintro e w8 ⟨rfl, hb⟩
  have HX8 := Lib.hid (HX7.out.on hb)
  clear hb HX7 HR
  rw [HPB.out]
  go_wp2_with fail
  refine (awake_any m _ HX8.out.len HX8.out.tab).mono ?_
  rintro e w9 ⟨rfl, hb⟩
  have HX9 := Lib.hid (HX8.out.on hb)
  clear hb HX8 
  go_wp2_with fail
  go_ret
  exact ⟨rfl, HX9.out.below⟩

set_option maxHeartbeats 8000000 in
set_option maxRecDepth 100000 in
theorem back_yft (A B : Option Addr) (c d : Nat) (ps qs : List Page) (s : ByteArray) (m : Int) (w : World) (hA : PagesAt w A ps) (hB : PagesAt w B qs) (hfA : ∀ p ∈ ps, PgFit p) (hfB : ∀ p ∈ qs, PgFit p) (h6A : ∀ p ∈ ps, P64 p) (h6B : ∀ p ∈ qs, P64 p)
    (hlA : ps.length ≤ maxLen) (hlB : qs.length ≤ maxLen) (hs : s.size ≤ 9223372036854775807) (hT : Tab w) (hm : w.cell? ⟨0, 0, none⟩ = some (.int .i64 m)) (h1 : longB ps = false) (h2 : longB qs = false) (h5 : s.size ≤ 5000) (hn1 : nearP ps = false) (hn2 : nearP qs = true) (rs : List Page) (hps : parseP s.data.toList = (rs, 0, 0)) :
    Calls Tryd.prog 5 #[.slice A ps.length c, .slice B qs.length d, .string s] w fun e w' => e = .returned (.bool true) ∧ Below w.heap.size w w' := by
  obtain ⟨q1, q2⟩ := longB_false h1
  obtain ⟨q3, q4⟩ := longB_false h2
  have h5' : ¬ (5000 : Int) < (s.size : Int) := by omega
  have HX0 := Lib.hid (Ctx.start hT hm)
  have HP0 := Lib.hid hA
  have HQ0 := Lib.hid hB
  have hsm := small_of (ps := ps) (by omega)
  have HSM := Lib.hid hsm
  have HF := Lib.hid hfA
  have HG := Lib.hid hfB
  have H6 := Lib.hid h6A
  have H7 := Lib.hid h6B
  have HL1 := Lib.hid h1
  have HL2 := Lib.hid h2
  clear hA hB hfA hfB h6A h6B hT hm hsm h1 h2
  have HN1 := Lib.hid hn1
  have HN2 := Lib.hid hn2
  clear hn1 hn2
  obtain ⟨hr1, _, hr2⟩ := write_parse hps
  have hpc := pages_count rs
  have hpl : (pagesB rs).length = s.size := by rw [hr2, size_list]
  have HPB : Hid (bs (pagesB rs) = s) := by show _ = _; rw [hr2, bs_self]
  have HR6 := Lib.hid (p64_near hr1)
  have HNR := Lib.hid hr1
  have HPS := Lib.hid hps
  have hself : (s.toList == s.toList) = true := by simp
  clear hps hr1 hr2
  go_enter Tryd.func5, Tryd.ntmps5
  go_wp2_with fail
  refine (long_no A c ps w HP0.out HF.out hlA HL1.out).mono ?_
  rintro e w1 ⟨rfl, hb⟩
  have HX1 := Lib.hid (HX0.out.on hb)
  have HP1 := Lib.hid (HP0.out.below hb)
  have HQ1 := Lib.hid (HQ0.out.below hb)
  clear hb HX0 HP0 HQ0
  go_wp2_with fail
  refine (long_no B d qs _ HQ1.out HG.out hlB HL2.out).mono ?_
  rintro e w2 ⟨rfl, hb⟩
  have HX2 := Lib.hid (HX1.out.on hb)
  have HP2 := Lib.hid (HP1.out.below hb)
  have HQ2 := Lib.hid (HQ1.out.below hb)
  clear hb HX1 HP1 HQ1
  go_wp2_with fail
  refine (write_no A c ps _ HP2.out (by omega) (by omega) H6.out HX2.out.tab HN1.out).mono ?_
  rintro e w3 ⟨rfl, hb⟩
  have HX3 := Lib.hid (HX2.out.on hb)
  have HP3 := Lib.hid (HP2.out.below hb)
  have HQ3 := Lib.hid (HQ2.out.below hb)
  clear hb HX2 HP2 HQ2
  go_wp2_with fail
  refine (write_ok B d qs _ HQ3.out (by omega) (by omega) H7.out HX3.out.tab HN2.out).mono ?_
  rintro e w4 ⟨rfl, hb⟩
  have HX4 := Lib.hid (HX3.out.on hb)
  have HP4 := Lib.hid (HP3.out.below hb)
  have HQ4 := Lib.hid (HQ3.out.below hb)
  clear hb HX3 HP3 HQ3
  go_wp2_with fail
  refine (parse_ok s rs m _ (by omega) HX4.out.len HPS.out).mono ?_
  rintro e w5 ⟨A9, c9, rfl, hp9, hb⟩
  have HX5 := Lib.hid (HX4.out.on hb)
  have HR := Lib.hid hp9
  clear hb hp9 HX4 HP4 HQ4
  go_wp2_with fail
  refine (write_ok A9 c9 rs _ HR.out (by omega) (by omega) HR6.out HX5.out.tab HNR.out).mono ?_
  rintro e w6 ⟨rfl, hb⟩
  have HX6 := Lib.hid (HX5.out.on hb)
  clear hb HX5 HR
  rw [HPB.out]
  go_wp2_with fail
  refine (awake_any m _ HX6.out.len HX6.out.tab).mono ?_
  rintro e w7 ⟨rfl, hb⟩
  have HX7 := Lib.hid (HX6.out.on hb)
  clear hb HX6 
  go_wp2_with fail
  go_ret
  exact ⟨rfl, HX7.out.below⟩

set_option maxHeartbeats 8000000 in
set_option maxRecDepth 100000 in
theorem back_yff (A B : Option Addr) (c d : Nat) (ps qs : List Page) (s : ByteArray) (m : Int) (w : World) (hA : PagesAt w A ps) (hB : PagesAt w B qs) (hfA : ∀ p ∈ ps, PgFit p) (hfB : ∀ p ∈ qs, PgFit p) (h6A : ∀ p ∈ ps, P64 p) (h6B : ∀ p ∈ qs, P64 p)
    (hlA : ps.length ≤ maxLen) (hlB : qs.length ≤ maxLen) (hs : s.size ≤ 9223372036854775807) (hT : Tab w) (hm : w.cell? ⟨0, 0, none⟩ = some (.int .i64 m)) (h1 : longB ps = false) (h2 : longB qs = false) (h5 : s.size ≤ 5000) (hn1 : nearP ps = false) (hn2 : nearP qs = false) (rs : List Page) (hps : parseP s.data.toList = (rs, 0, 0)) :
    Calls Tryd.prog 5 #[.slice A ps.length c, .slice B qs.length d, .string s] w fun e w' => e = .returned (.bool true) ∧ Below w.heap.size w w' := by
  obtain ⟨q1, q2⟩ := longB_false h1
  obtain ⟨q3, q4⟩ := longB_false h2
  have h5' : ¬ (5000 : Int) < (s.size : Int) := by omega
  have HX0 := Lib.hid (Ctx.start hT hm)
  have HP0 := Lib.hid hA
  have HQ0 := Lib.hid hB
  have hsm := small_of (ps := ps) (by omega)
  have HSM := Lib.hid hsm
  have HF := Lib.hid hfA
  have HG := Lib.hid hfB
  have H6 := Lib.hid h6A
  have H7 := Lib.hid h6B
  have HL1 := Lib.hid h1
  have HL2 := Lib.hid h2
  clear hA hB hfA hfB h6A h6B hT hm hsm h1 h2
  have HN1 := Lib.hid hn1
  have HN2 := Lib.hid hn2
  clear hn1 hn2
  obtain ⟨hr1, _, hr2⟩ := write_parse hps
  have hpc := pages_count rs
  have hpl : (pagesB rs).length = s.size := by rw [hr2, size_list]
  have HPB : Hid (bs (pagesB rs) = s) := by show _ = _; rw [hr2, bs_self]
  have HR6 := Lib.hid (p64_near hr1)
  have HNR := Lib.hid hr1
  have HPS := Lib.hid hps
  have hself : (s.toList == s.toList) = true := by simp
  clear hps hr1 hr2
  go_enter Tryd.func5, Tryd.ntmps5
  go_wp2_with fail
  refine (long_no A c ps w HP0.out HF.out hlA HL1.out).mono ?_
  rintro e w1 ⟨rfl, hb⟩
  have HX1 := Lib.hid (HX0.out.on hb)
  have HP1 := Lib.hid (HP0.out.below hb)
  have HQ1 := Lib.hid (HQ0.out.below hb)
  clear hb HX0 HP0 HQ0
  go_wp2_with fail
  refine (long_no B d qs _ HQ1.out HG.out hlB HL2.out).mono ?_
  rintro e w2 ⟨rfl, hb⟩
  have HX2 := Lib.hid (HX1.out.on hb)
  have HP2 := Lib.hid (HP1.out.below hb)
  have HQ2 := Lib.hid (HQ1.out.below hb)
  clear hb HX1 HP1 HQ1
  go_wp2_with fail
  refine (write_no A c ps _ HP2.out (by omega) (by omega) H6.out HX2.out.tab HN1.out).mono ?_
  rintro e w3 ⟨rfl, hb⟩
  have HX3 := Lib.hid (HX2.out.on hb)
  have HP3 := Lib.hid (HP2.out.below hb)
  have HQ3 := Lib.hid (HQ2.out.below hb)
  clear hb HX2 HP2 HQ2
  go_wp2_with fail
  refine (write_no B d qs _ HQ3.out (by omega) (by omega) H7.out HX3.out.tab HN2.out).mono ?_
  rintro e w4 ⟨rfl, hb⟩
  have HX4 := Lib.hid (HX3.out.on hb)
  have HP4 := Lib.hid (HP3.out.below hb)
  have HQ4 := Lib.hid (HQ3.out.below hb)
  clear hb HX3 HP3 HQ3
  go_wp2_with fail
  refine (parse_ok s rs m _ (by omega) HX4.out.len HPS.out).mono ?_
  rintro e w5 ⟨A9, c9, rfl, hp9, hb⟩
  have HX5 := Lib.hid (HX4.out.on hb)
  have HR := Lib.hid hp9
  clear hb hp9 HX4 HP4 HQ4
  go_wp2_with fail
  refine (write_ok A9 c9 rs _ HR.out (by omega) (by omega) HR6.out HX5.out.tab HNR.out).mono ?_
  rintro e w6 ⟨rfl, hb⟩
  have HX6 := Lib.hid (HX5.out.on hb)
  clear hb HX5 HR
  rw [HPB.out]
  go_wp2_with fail
  refine (awake_any m _ HX6.out.len HX6.out.tab).mono ?_
  rintro e w7 ⟨rfl, hb⟩
  have HX7 := Lib.hid (HX6.out.on hb)
  clear hb HX6 
  go_wp2_with fail
  go_ret
  exact ⟨rfl, HX7.out.below⟩

set_option maxHeartbeats 8000000 in
set_option maxRecDepth 100000 in
theorem back_ntte (A B : Option Addr) (c d : Nat) (ps qs : List Page) (s : ByteArray) (m : Int) (w : World) (hA : PagesAt w A ps) (hB : PagesAt w B qs) (hfA : ∀ p ∈ ps, PgFit p) (hfB : ∀ p ∈ qs, PgFit p) (h6A : ∀ p ∈ ps, P64 p) (h6B : ∀ p ∈ qs, P64 p)
    (hlA : ps.length ≤ maxLen) (hlB : qs.length ≤ maxLen) (hs : s.size ≤ 9223372036854775807) (hT : Tab w) (hm : w.cell? ⟨0, 0, none⟩ = some (.int .i64 m)) (h1 : longB ps = false) (h2 : longB qs = false) (h5 : s.size ≤ 5000) (hn1 : nearP ps = true) (hn2 : nearP qs = true) (heq : ps = qs) (k : Nat) (hk : 0 < k) (hps : parseP s.data.toList = ([], k, 1)) :
    Calls Tryd.prog 5 #[.slice A ps.length c, .slice B qs.length d, .string s] w fun e w' => e = .returned (.bool true) ∧ Below w.heap.size w w' := by
  obtain ⟨q1, q2⟩ := longB_false h1
  obtain ⟨q3, q4⟩ := longB_false h2
  have h5' : ¬ (5000 : Int) < (s.size : Int) := by omega
  have HX0 := Lib.hid (Ctx.start hT hm)
  have HP0 := Lib.hid hA
  have HQ0 := Lib.hid hB
  have hsm := small_of (ps := ps) (by omega)
  have HSM := Lib.hid hsm
  have HF := Lib.hid hfA
  have HG := Lib.hid hfB
  have H6 := Lib.hid h6A
  have H7 := Lib.hid h6B
  have HL1 := Lib.hid h1
  have HL2 := Lib.hid h2
  clear hA hB hfA hfB h6A h6B hT hm hsm h1 h2
  have HN1 := Lib.hid hn1
  have HN2 := Lib.hid hn2
  have HSZ : Hid ((bs (pagesB ps)).size ≤ 100000) := by
    show _ ≤ _
    rw [bs_size]
    have := pages_short ps H6.out
    omega
  have HPW : Hid (parseP (bs (pagesB ps)).data.toList = (ps, 0, 0)) := parse_write ps HN1.out
  have hbb : ((bs (pagesB ps)).toList == (bs (pagesB qs)).toList) = true := by rw [heq]; simp
  have HEQ : Hid (sameL ps qs = true) := by show _ = _; rw [heq]; exact same_self _
  clear heq
  clear hn1 hn2
  have HPS := Lib.hid hps
  have hk' : (0 : Int) < (k : Int) := by omega
  clear hps
  go_enter Tryd.func5, Tryd.ntmps5
  go_wp2_with fail
  refine (long_no A c ps w HP0.out HF.out hlA HL1.out).mono ?_
  rintro e w1 ⟨rfl, hb⟩
  have HX1 := Lib.hid (HX0.out.on hb)
  have HP1 := Lib.hid (HP0.out.below hb)
  have HQ1 := Lib.hid (HQ0.out.below hb)
  clear hb HX0 HP0 HQ0
  go_wp2_with fail
  refine (long_no B d qs _ HQ1.out HG.out hlB HL2.out).mono ?_
  rintro e w2 ⟨rfl, hb⟩
  have HX2 := Lib.hid (HX1.out.on hb)
  have HP2 := Lib.hid (HP1.out.below hb)
  have HQ2 := Lib.hid (HQ1.out.below hb)
  clear hb HX1 HP1 HQ1
  go_wp2_with fail
  refine (write_ok A c ps _ HP2.out (by omega) (by omega) H6.out HX2.out.tab HN1.out).mono ?_
  rintro e w3 ⟨rfl, hb⟩
  have HX3 := Lib.hid (HX2.out.on hb)
  have HP3 := Lib.hid (HP2.out.below hb)
  have HQ3 := Lib.hid (HQ2.out.below hb)
  clear hb HX2 HP2 HQ2
  go_wp2_with fail
  refine (write_ok B d qs _ HQ3.out (by omega) (by omega) H7.out HX3.out.tab HN2.out).mono ?_
  rintro e w4 ⟨rfl, hb⟩
  have HX4 := Lib.hid (HX3.out.on hb)
  have HP4 := Lib.hid (HP3.out.below hb)
  have HQ4 := Lib.hid (HQ3.out.below hb)
  clear hb HX3 HP3 HQ3
  go_wp2_with fail
  refine (parse_ok (bs (pagesB ps)) ps m _ HSZ.out HX4.out.len HPW.out).mono ?_
  rintro e w5 ⟨A5, c5, rfl, hp5, hb⟩
  have HR5 := Lib.hid hp5
  have HX5 := Lib.hid (HX4.out.on hb)
  have HP5 := Lib.hid (HP4.out.below hb)
  have HQ5 := Lib.hid (HQ4.out.below hb)
  clear hb hp5 HX4 HP4 HQ4
  go_wp2_with fail
  have cs := rsame_any A5 A c5 c ps ps w5 HR5.out HP5.out (by omega) HSM.out
  rw [same_self] at cs
  refine (cs).mono ?_
  rintro e w6 ⟨rfl, hb⟩
  have HX6 := Lib.hid (HX5.out.on hb)
  have HP6 := Lib.hid (HP5.out.below hb)
  have HQ6 := Lib.hid (HQ5.out.below hb)
  clear hb HX5 HP5 HQ5
  clear cs HR5
  go_wp2_with fail
  have cs := rsame_any A B c d ps qs w6 HP6.out HQ6.out (by omega) HSM.out
  rw [HEQ.out] at cs
  refine (cs).mono ?_
  rintro e w7 ⟨rfl, hb⟩
  have HX7 := Lib.hid (HX6.out.on hb)
  have HP7 := Lib.hid (HP6.out.below hb)
  have HQ7 := Lib.hid (HQ6.out.below hb)
  clear hb HX6 HP6 HQ6
  clear cs
  go_wp2_with fail
  refine (parse_no s k m _ (by omega) HX7.out.len HPS.out).mono ?_
  rintro e w8 ⟨A9, c9, rfl, _, hb⟩
  have HX8 := Lib.hid (HX7.out.on hb)
  clear hb HX7 HP7 HQ7
  go_wp2_with fail
  refine (awake_any m _ HX8.out.len HX8.out.tab).mono ?_
  rintro e w9 ⟨rfl, hb⟩
  have HX9 := Lib.hid (HX8.out.on hb)
  clear hb HX8 
  go_wp2_with fail
  go_ret
  exact ⟨rfl, HX9.out.below⟩

set_option maxHeartbeats 8000000 in
set_option maxRecDepth 100000 in
theorem back_nttd (A B : Option Addr) (c d : Nat) (ps qs : List Page) (s : ByteArray) (m : Int) (w : World) (hA : PagesAt w A ps) (hB : PagesAt w B qs) (hfA : ∀ p ∈ ps, PgFit p) (hfB : ∀ p ∈ qs, PgFit p) (h6A : ∀ p ∈ ps, P64 p) (h6B : ∀ p ∈ qs, P64 p)
    (hlA : ps.length ≤ maxLen) (hlB : qs.length ≤ maxLen) (hs : s.size ≤ 9223372036854775807) (hT : Tab w) (hm : w.cell? ⟨0, 0, none⟩ = some (.int .i64 m)) (h1 : longB ps = false) (h2 : longB qs = false) (h5 : s.size ≤ 5000) (hn1 : nearP ps = true) (hn2 : nearP qs = true) (heq : ps ≠ qs) (k : Nat) (hk : 0 < k) (hps : parseP s.data.toList = ([], k, 1)) :
    Calls Tryd.prog 5 #[.slice A ps.length c, .slice B qs.length d, .string s] w fun e w' => e = .returned (.bool true) ∧ Below w.heap.size w w' := by
  obtain ⟨q1, q2⟩ := longB_false h1
  obtain ⟨q3, q4⟩ := longB_false h2
  have h5' : ¬ (5000 : Int) < (s.size : Int) := by omega
  have HX0 := Lib.hid (Ctx.start hT hm)
  have HP0 := Lib.hid hA
  have HQ0 := Lib.hid hB
  have hsm := small_of (ps := ps) (by omega)
  have HSM := Lib.hid hsm
  have HF := Lib.hid hfA
  have HG := Lib.hid hfB
  have H6 := Lib.hid h6A
  have H7 := Lib.hid h6B
  have HL1 := Lib.hid h1
  have HL2 := Lib.hid h2
  clear hA hB hfA hfB h6A h6B hT hm hsm h1 h2
  have HN1 := Lib.hid hn1
  have HN2 := Lib.hid hn2
  have HSZ : Hid ((bs (pagesB ps)).size ≤ 100000) := by
    show _ ≤ _
    rw [bs_size]
    have := pages_short ps H6.out
    omega
  have HPW : Hid (parseP (bs (pagesB ps)).data.toList = (ps, 0, 0)) := parse_write ps HN1.out
  have hbb : ((bs (pagesB ps)).toList == (bs (pagesB qs)).toList) = false := by
    rw [beq_eq_false_iff_ne]
    intro e
    rw [ByteArray.toList_eq, ByteArray.toList_eq, bs_list, bs_list] at e
    exact heq (pagesB_inj hn1 hn2 e)
  have HEQ : Hid (sameL ps qs = false) := same_ne heq
  clear heq
  clear hn1 hn2
  have HPS := Lib.hid hps
  have hk' : (0 : Int) < (k : Int) := by omega
  clear hps
  go_enter Tryd.func5, Tryd.ntmps5
  go_wp2_with fail
  refine (long_no A c ps w HP0.out HF.out hlA HL1.out).mono ?_
  rintro e w1 ⟨rfl, hb⟩
  have HX1 := Lib.hid (HX0.out.on hb)
  have HP1 := Lib.hid (HP0.out.below hb)
  have HQ1 := Lib.hid (HQ0.out.below hb)
  clear hb HX0 HP0 HQ0
  go_wp2_with fail
  refine (long_no B d qs _ HQ1.out HG.out hlB HL2.out).mono ?_
  rintro e w2 ⟨rfl, hb⟩
  have HX2 := Lib.hid (HX1.out.on hb)
  have HP2 := Lib.hid (HP1.out.below hb)
  have HQ2 := Lib.hid (HQ1.out.below hb)
  clear hb HX1 HP1 HQ1
  go_wp2_with fail
  refine (write_ok A c ps _ HP2.out (by omega) (by omega) H6.out HX2.out.tab HN1.out).mono ?_
  rintro e w3 ⟨rfl, hb⟩
  have HX3 := Lib.hid (HX2.out.on hb)
  have HP3 := Lib.hid (HP2.out.below hb)
  have HQ3 := Lib.hid (HQ2.out.below hb)
  clear hb HX2 HP2 HQ2
  go_wp2_with fail
  refine (write_ok B d qs _ HQ3.out (by omega) (by omega) H7.out HX3.out.tab HN2.out).mono ?_
  rintro e w4 ⟨rfl, hb⟩
  have HX4 := Lib.hid (HX3.out.on hb)
  have HP4 := Lib.hid (HP3.out.below hb)
  have HQ4 := Lib.hid (HQ3.out.below hb)
  clear hb HX3 HP3 HQ3
  go_wp2_with fail
  refine (parse_ok (bs (pagesB ps)) ps m _ HSZ.out HX4.out.len HPW.out).mono ?_
  rintro e w5 ⟨A5, c5, rfl, hp5, hb⟩
  have HR5 := Lib.hid hp5
  have HX5 := Lib.hid (HX4.out.on hb)
  have HP5 := Lib.hid (HP4.out.below hb)
  have HQ5 := Lib.hid (HQ4.out.below hb)
  clear hb hp5 HX4 HP4 HQ4
  go_wp2_with fail
  have cs := rsame_any A5 A c5 c ps ps w5 HR5.out HP5.out (by omega) HSM.out
  rw [same_self] at cs
  refine (cs).mono ?_
  rintro e w6 ⟨rfl, hb⟩
  have HX6 := Lib.hid (HX5.out.on hb)
  have HP6 := Lib.hid (HP5.out.below hb)
  have HQ6 := Lib.hid (HQ5.out.below hb)
  clear hb HX5 HP5 HQ5
  clear cs HR5
  go_wp2_with fail
  have cs := rsame_any A B c d ps qs w6 HP6.out HQ6.out (by omega) HSM.out
  rw [HEQ.out] at cs
  refine (cs).mono ?_
  rintro e w7 ⟨rfl, hb⟩
  have HX7 := Lib.hid (HX6.out.on hb)
  have HP7 := Lib.hid (HP6.out.below hb)
  have HQ7 := Lib.hid (HQ6.out.below hb)
  clear hb HX6 HP6 HQ6
  clear cs
  go_wp2_with fail
  refine (parse_no s k m _ (by omega) HX7.out.len HPS.out).mono ?_
  rintro e w8 ⟨A9, c9, rfl, _, hb⟩
  have HX8 := Lib.hid (HX7.out.on hb)
  clear hb HX7 HP7 HQ7
  go_wp2_with fail
  refine (awake_any m _ HX8.out.len HX8.out.tab).mono ?_
  rintro e w9 ⟨rfl, hb⟩
  have HX9 := Lib.hid (HX8.out.on hb)
  clear hb HX8 
  go_wp2_with fail
  go_ret
  exact ⟨rfl, HX9.out.below⟩

set_option maxHeartbeats 8000000 in
set_option maxRecDepth 100000 in
theorem back_ntf (A B : Option Addr) (c d : Nat) (ps qs : List Page) (s : ByteArray) (m : Int) (w : World) (hA : PagesAt w A ps) (hB : PagesAt w B qs) (hfA : ∀ p ∈ ps, PgFit p) (hfB : ∀ p ∈ qs, PgFit p) (h6A : ∀ p ∈ ps, P64 p) (h6B : ∀ p ∈ qs, P64 p)
    (hlA : ps.length ≤ maxLen) (hlB : qs.length ≤ maxLen) (hs : s.size ≤ 9223372036854775807) (hT : Tab w) (hm : w.cell? ⟨0, 0, none⟩ = some (.int .i64 m)) (h1 : longB ps = false) (h2 : longB qs = false) (h5 : s.size ≤ 5000) (hn1 : nearP ps = true) (hn2 : nearP qs = false) (k : Nat) (hk : 0 < k) (hps : parseP s.data.toList = ([], k, 1)) :
    Calls Tryd.prog 5 #[.slice A ps.length c, .slice B qs.length d, .string s] w fun e w' => e = .returned (.bool true) ∧ Below w.heap.size w w' := by
  obtain ⟨q1, q2⟩ := longB_false h1
  obtain ⟨q3, q4⟩ := longB_false h2
  have h5' : ¬ (5000 : Int) < (s.size : Int) := by omega
  have HX0 := Lib.hid (Ctx.start hT hm)
  have HP0 := Lib.hid hA
  have HQ0 := Lib.hid hB
  have hsm := small_of (ps := ps) (by omega)
  have HSM := Lib.hid hsm
  have HF := Lib.hid hfA
  have HG := Lib.hid hfB
  have H6 := Lib.hid h6A
  have H7 := Lib.hid h6B
  have HL1 := Lib.hid h1
  have HL2 := Lib.hid h2
  clear hA hB hfA hfB h6A h6B hT hm hsm h1 h2
  have HN1 := Lib.hid hn1
  have HN2 := Lib.hid hn2
  have HSZ : Hid ((bs (pagesB ps)).size ≤ 100000) := by
    show _ ≤ _
    rw [bs_size]
    have := pages_short ps H6.out
    omega
  have HPW : Hid (parseP (bs (pagesB ps)).data.toList = (ps, 0, 0)) := parse_write ps HN1.out
  clear hn1 hn2
  have HPS := Lib.hid hps
  have hk' : (0 : Int) < (k : Int) := by omega
  clear hps
  go_enter Tryd.func5, Tryd.ntmps5
  go_wp2_with fail
  refine (long_no A c ps w HP0.out HF.out hlA HL1.out).mono ?_
  rintro e w1 ⟨rfl, hb⟩
  have HX1 := Lib.hid (HX0.out.on hb)
  have HP1 := Lib.hid (HP0.out.below hb)
  have HQ1 := Lib.hid (HQ0.out.below hb)
  clear hb HX0 HP0 HQ0
  go_wp2_with fail
  refine (long_no B d qs _ HQ1.out HG.out hlB HL2.out).mono ?_
  rintro e w2 ⟨rfl, hb⟩
  have HX2 := Lib.hid (HX1.out.on hb)
  have HP2 := Lib.hid (HP1.out.below hb)
  have HQ2 := Lib.hid (HQ1.out.below hb)
  clear hb HX1 HP1 HQ1
  go_wp2_with fail
  refine (write_ok A c ps _ HP2.out (by omega) (by omega) H6.out HX2.out.tab HN1.out).mono ?_
  rintro e w3 ⟨rfl, hb⟩
  have HX3 := Lib.hid (HX2.out.on hb)
  have HP3 := Lib.hid (HP2.out.below hb)
  have HQ3 := Lib.hid (HQ2.out.below hb)
  clear hb HX2 HP2 HQ2
  go_wp2_with fail
  refine (write_no B d qs _ HQ3.out (by omega) (by omega) H7.out HX3.out.tab HN2.out).mono ?_
  rintro e w4 ⟨rfl, hb⟩
  have HX4 := Lib.hid (HX3.out.on hb)
  have HP4 := Lib.hid (HP3.out.below hb)
  have HQ4 := Lib.hid (HQ3.out.below hb)
  clear hb HX3 HP3 HQ3
  go_wp2_with fail
  refine (parse_ok (bs (pagesB ps)) ps m _ HSZ.out HX4.out.len HPW.out).mono ?_
  rintro e w5 ⟨A5, c5, rfl, hp5, hb⟩
  have HR5 := Lib.hid hp5
  have HX5 := Lib.hid (HX4.out.on hb)
  have HP5 := Lib.hid (HP4.out.below hb)
  have HQ5 := Lib.hid (HQ4.out.below hb)
  clear hb hp5 HX4 HP4 HQ4
  go_wp2_with fail
  have cs := rsame_any A5 A c5 c ps ps w5 HR5.out HP5.out (by omega) HSM.out
  rw [same_self] at cs
  refine (cs).mono ?_
  rintro e w6 ⟨rfl, hb⟩
  have HX6 := Lib.hid (HX5.out.on hb)
  have HP6 := Lib.hid (HP5.out.below hb)
  have HQ6 := Lib.hid (HQ5.out.below hb)
  clear hb HX5 HP5 HQ5
  clear cs HR5
  go_wp2_with fail
  refine (parse_no s k m _ (by omega) HX6.out.len HPS.out).mono ?_
  rintro e w7 ⟨A9, c9, rfl, _, hb⟩
  have HX7 := Lib.hid (HX6.out.on hb)
  clear hb HX6 HP6 HQ6
  go_wp2_with fail
  refine (awake_any m _ HX7.out.len HX7.out.tab).mono ?_
  rintro e w8 ⟨rfl, hb⟩
  have HX8 := Lib.hid (HX7.out.on hb)
  clear hb HX7 
  go_wp2_with fail
  go_ret
  exact ⟨rfl, HX8.out.below⟩

set_option maxHeartbeats 8000000 in
set_option maxRecDepth 100000 in
theorem back_nft (A B : Option Addr) (c d : Nat) (ps qs : List Page) (s : ByteArray) (m : Int) (w : World) (hA : PagesAt w A ps) (hB : PagesAt w B qs) (hfA : ∀ p ∈ ps, PgFit p) (hfB : ∀ p ∈ qs, PgFit p) (h6A : ∀ p ∈ ps, P64 p) (h6B : ∀ p ∈ qs, P64 p)
    (hlA : ps.length ≤ maxLen) (hlB : qs.length ≤ maxLen) (hs : s.size ≤ 9223372036854775807) (hT : Tab w) (hm : w.cell? ⟨0, 0, none⟩ = some (.int .i64 m)) (h1 : longB ps = false) (h2 : longB qs = false) (h5 : s.size ≤ 5000) (hn1 : nearP ps = false) (hn2 : nearP qs = true) (k : Nat) (hk : 0 < k) (hps : parseP s.data.toList = ([], k, 1)) :
    Calls Tryd.prog 5 #[.slice A ps.length c, .slice B qs.length d, .string s] w fun e w' => e = .returned (.bool true) ∧ Below w.heap.size w w' := by
  obtain ⟨q1, q2⟩ := longB_false h1
  obtain ⟨q3, q4⟩ := longB_false h2
  have h5' : ¬ (5000 : Int) < (s.size : Int) := by omega
  have HX0 := Lib.hid (Ctx.start hT hm)
  have HP0 := Lib.hid hA
  have HQ0 := Lib.hid hB
  have hsm := small_of (ps := ps) (by omega)
  have HSM := Lib.hid hsm
  have HF := Lib.hid hfA
  have HG := Lib.hid hfB
  have H6 := Lib.hid h6A
  have H7 := Lib.hid h6B
  have HL1 := Lib.hid h1
  have HL2 := Lib.hid h2
  clear hA hB hfA hfB h6A h6B hT hm hsm h1 h2
  have HN1 := Lib.hid hn1
  have HN2 := Lib.hid hn2
  clear hn1 hn2
  have HPS := Lib.hid hps
  have hk' : (0 : Int) < (k : Int) := by omega
  clear hps
  go_enter Tryd.func5, Tryd.ntmps5
  go_wp2_with fail
  refine (long_no A c ps w HP0.out HF.out hlA HL1.out).mono ?_
  rintro e w1 ⟨rfl, hb⟩
  have HX1 := Lib.hid (HX0.out.on hb)
  have HP1 := Lib.hid (HP0.out.below hb)
  have HQ1 := Lib.hid (HQ0.out.below hb)
  clear hb HX0 HP0 HQ0
  go_wp2_with fail
  refine (long_no B d qs _ HQ1.out HG.out hlB HL2.out).mono ?_
  rintro e w2 ⟨rfl, hb⟩
  have HX2 := Lib.hid (HX1.out.on hb)
  have HP2 := Lib.hid (HP1.out.below hb)
  have HQ2 := Lib.hid (HQ1.out.below hb)
  clear hb HX1 HP1 HQ1
  go_wp2_with fail
  refine (write_no A c ps _ HP2.out (by omega) (by omega) H6.out HX2.out.tab HN1.out).mono ?_
  rintro e w3 ⟨rfl, hb⟩
  have HX3 := Lib.hid (HX2.out.on hb)
  have HP3 := Lib.hid (HP2.out.below hb)
  have HQ3 := Lib.hid (HQ2.out.below hb)
  clear hb HX2 HP2 HQ2
  go_wp2_with fail
  refine (write_ok B d qs _ HQ3.out (by omega) (by omega) H7.out HX3.out.tab HN2.out).mono ?_
  rintro e w4 ⟨rfl, hb⟩
  have HX4 := Lib.hid (HX3.out.on hb)
  have HP4 := Lib.hid (HP3.out.below hb)
  have HQ4 := Lib.hid (HQ3.out.below hb)
  clear hb HX3 HP3 HQ3
  go_wp2_with fail
  refine (parse_no s k m _ (by omega) HX4.out.len HPS.out).mono ?_
  rintro e w5 ⟨A9, c9, rfl, _, hb⟩
  have HX5 := Lib.hid (HX4.out.on hb)
  clear hb HX4 HP4 HQ4
  go_wp2_with fail
  refine (awake_any m _ HX5.out.len HX5.out.tab).mono ?_
  rintro e w6 ⟨rfl, hb⟩
  have HX6 := Lib.hid (HX5.out.on hb)
  clear hb HX5 
  go_wp2_with fail
  go_ret
  exact ⟨rfl, HX6.out.below⟩

set_option maxHeartbeats 8000000 in
set_option maxRecDepth 100000 in
theorem back_nff (A B : Option Addr) (c d : Nat) (ps qs : List Page) (s : ByteArray) (m : Int) (w : World) (hA : PagesAt w A ps) (hB : PagesAt w B qs) (hfA : ∀ p ∈ ps, PgFit p) (hfB : ∀ p ∈ qs, PgFit p) (h6A : ∀ p ∈ ps, P64 p) (h6B : ∀ p ∈ qs, P64 p)
    (hlA : ps.length ≤ maxLen) (hlB : qs.length ≤ maxLen) (hs : s.size ≤ 9223372036854775807) (hT : Tab w) (hm : w.cell? ⟨0, 0, none⟩ = some (.int .i64 m)) (h1 : longB ps = false) (h2 : longB qs = false) (h5 : s.size ≤ 5000) (hn1 : nearP ps = false) (hn2 : nearP qs = false) (k : Nat) (hk : 0 < k) (hps : parseP s.data.toList = ([], k, 1)) :
    Calls Tryd.prog 5 #[.slice A ps.length c, .slice B qs.length d, .string s] w fun e w' => e = .returned (.bool true) ∧ Below w.heap.size w w' := by
  obtain ⟨q1, q2⟩ := longB_false h1
  obtain ⟨q3, q4⟩ := longB_false h2
  have h5' : ¬ (5000 : Int) < (s.size : Int) := by omega
  have HX0 := Lib.hid (Ctx.start hT hm)
  have HP0 := Lib.hid hA
  have HQ0 := Lib.hid hB
  have hsm := small_of (ps := ps) (by omega)
  have HSM := Lib.hid hsm
  have HF := Lib.hid hfA
  have HG := Lib.hid hfB
  have H6 := Lib.hid h6A
  have H7 := Lib.hid h6B
  have HL1 := Lib.hid h1
  have HL2 := Lib.hid h2
  clear hA hB hfA hfB h6A h6B hT hm hsm h1 h2
  have HN1 := Lib.hid hn1
  have HN2 := Lib.hid hn2
  clear hn1 hn2
  have HPS := Lib.hid hps
  have hk' : (0 : Int) < (k : Int) := by omega
  clear hps
  go_enter Tryd.func5, Tryd.ntmps5
  go_wp2_with fail
  refine (long_no A c ps w HP0.out HF.out hlA HL1.out).mono ?_
  rintro e w1 ⟨rfl, hb⟩
  have HX1 := Lib.hid (HX0.out.on hb)
  have HP1 := Lib.hid (HP0.out.below hb)
  have HQ1 := Lib.hid (HQ0.out.below hb)
  clear hb HX0 HP0 HQ0
  go_wp2_with fail
  refine (long_no B d qs _ HQ1.out HG.out hlB HL2.out).mono ?_
  rintro e w2 ⟨rfl, hb⟩
  have HX2 := Lib.hid (HX1.out.on hb)
  have HP2 := Lib.hid (HP1.out.below hb)
  have HQ2 := Lib.hid (HQ1.out.below hb)
  clear hb HX1 HP1 HQ1
  go_wp2_with fail
  refine (write_no A c ps _ HP2.out (by omega) (by omega) H6.out HX2.out.tab HN1.out).mono ?_
  rintro e w3 ⟨rfl, hb⟩
  have HX3 := Lib.hid (HX2.out.on hb)
  have HP3 := Lib.hid (HP2.out.below hb)
  have HQ3 := Lib.hid (HQ2.out.below hb)
  clear hb HX2 HP2 HQ2
  go_wp2_with fail
  refine (write_no B d qs _ HQ3.out (by omega) (by omega) H7.out HX3.out.tab HN2.out).mono ?_
  rintro e w4 ⟨rfl, hb⟩
  have HX4 := Lib.hid (HX3.out.on hb)
  have HP4 := Lib.hid (HP3.out.below hb)
  have HQ4 := Lib.hid (HQ3.out.below hb)
  clear hb HX3 HP3 HQ3
  go_wp2_with fail
  refine (parse_no s k m _ (by omega) HX4.out.len HPS.out).mono ?_
  rintro e w5 ⟨A9, c9, rfl, _, hb⟩
  have HX5 := Lib.hid (HX4.out.on hb)
  clear hb HX4 HP4 HQ4
  go_wp2_with fail
  refine (awake_any m _ HX5.out.len HX5.out.tab).mono ?_
  rintro e w6 ⟨rfl, hb⟩
  have HX6 := Lib.hid (HX5.out.on hb)
  clear hb HX5 
  go_wp2_with fail
  go_ret
  exact ⟨rfl, HX6.out.below⟩

theorem back_any (A B : Option Addr) (c d : Nat) (ps qs : List Page) (s : ByteArray) (m : Int) (w : World) (hA : PagesAt w A ps) (hB : PagesAt w B qs) (hfA : ∀ p ∈ ps, PgFit p) (hfB : ∀ p ∈ qs, PgFit p) (h6A : ∀ p ∈ ps, P64 p) (h6B : ∀ p ∈ qs, P64 p)
    (hlA : ps.length ≤ maxLen) (hlB : qs.length ≤ maxLen) (hs : s.size ≤ 9223372036854775807) (hT : Tab w) (hm : w.cell? ⟨0, 0, none⟩ = some (.int .i64 m)) :
    Calls Tryd.prog 5 #[.slice A ps.length c, .slice B qs.length d, .string s] w fun e w' => e = .returned (.bool true) ∧ Below w.heap.size w w' := by
  cases h1 : longB ps with
  | true => exact back_long A B c d ps qs s m w hA hB hfA hfB h6A h6B hlA hlB hs hT hm (.inl h1)
  | false =>
    cases h2 : longB qs with
    | true => exact back_long A B c d ps qs s m w hA hB hfA hfB h6A h6B hlA hlB hs hT hm (.inr (.inl h2))
    | false =>
      by_cases h5 : 5000 < s.size
      · exact back_long A B c d ps qs s m w hA hB hfA hfB h6A h6B hlA hlB hs hT hm (.inr (.inr h5))
      · have h5' : s.size ≤ 5000 := by omega
        rcases parse_form s.data.toList with ⟨rs, hr⟩ | ⟨k, hk, hr⟩
        · cases n1 : nearP ps with
          | true =>
            cases n2 : nearP qs with
            | true =>
              by_cases he : ps = qs
              · exact back_ytte A B c d ps qs s m w hA hB hfA hfB h6A h6B hlA hlB hs hT hm h1 h2 h5' n1 n2 he rs hr
              · exact back_yttd A B c d ps qs s m w hA hB hfA hfB h6A h6B hlA hlB hs hT hm h1 h2 h5' n1 n2 he rs hr
            | false => exact back_ytf A B c d ps qs s m w hA hB hfA hfB h6A h6B hlA hlB hs hT hm h1 h2 h5' n1 n2 rs hr
          | false =>
            cases n2 : nearP qs with
            | true => exact back_yft A B c d ps qs s m w hA hB hfA hfB h6A h6B hlA hlB hs hT hm h1 h2 h5' n1 n2 rs hr
            | false => exact back_yff A B c d ps qs s m w hA hB hfA hfB h6A h6B hlA hlB hs hT hm h1 h2 h5' n1 n2 rs hr
        · cases n1 : nearP ps with
          | true =>
            cases n2 : nearP qs with
            | true =>
              by_cases he : ps = qs
              · exact back_ntte A B c d ps qs s m w hA hB hfA hfB h6A h6B hlA hlB hs hT hm h1 h2 h5' n1 n2 he k hk hr
              · exact back_nttd A B c d ps qs s m w hA hB hfA hfB h6A h6B hlA hlB hs hT hm h1 h2 h5' n1 n2 he k hk hr
            | false => exact back_ntf A B c d ps qs s m w hA hB hfA hfB h6A h6B hlA hlB hs hT hm h1 h2 h5' n1 n2 k hk hr
          | false =>
            cases n2 : nearP qs with
            | true => exact back_nft A B c d ps qs s m w hA hB hfA hfB h6A h6B hlA hlB hs hT hm h1 h2 h5' n1 n2 k hk hr
            | false => exact back_nff A B c d ps qs s m w hA hB hfA hfB h6A h6B hlA hlB hs hT hm h1 h2 h5' n1 n2 k hk hr
end Go.Proofs.YtloecpgfohhmlaaDoor
