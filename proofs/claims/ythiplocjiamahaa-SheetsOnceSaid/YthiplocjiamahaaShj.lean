/-
  sheets.Read: of whatever slots the pages as they are read, or that they are none; below the heap's size at the call nothing turns.
-/
import Derived.Test.YthiplocjiamahaaShq
namespace Go.Proofs.Ythiplocjiamahaa
open Go.RowKit Go.Proofs.Shs Go.Maps

/-- How many slots have a page. -/
def cntPg (l : List Slot) : Nat := (l.filter fun x => decide (0 ≤ x.page)).length
theorem cntPg_snoc (l : List Slot) (k : Nat) (x : Slot) (h : l[k]? = some x) : cntPg (l.take (k + 1)) = cntPg (l.take k) + if 0 ≤ x.page then 1 else 0 := by
  unfold cntPg
  rw [take_snoc l k x h, List.filter_append, List.length_append]
  by_cases g : 0 ≤ x.page <;> simp [g]
theorem cntPg_le (l : List Slot) (k : Nat) : cntPg (l.take k) ≤ k := by
  unfold cntPg
  exact Nat.le_trans (List.length_filter_le _ _) (by rw [List.length_take]; omega)
def ReadOk (p : Plan) (l : List Slot) : Prop := mayP p = true ∧ (allP p (cntPg l)).length = l.length ∧ (l.map pl).Nodup ∧ ∀ x, x ∈ allP p (cntPg l) → x ∈ l
def wfS (x : Slot) : Prop := wf4 (pl x) ∧ (Lit.int .i64 x.page).wf = true
def numsTo (n : Nat) : List Int := (List.range n).map fun (i : Nat) => (i : Int)
/-- What Read answers. -/
def ReadGives (p : Plan) (l : List Slot) (w : World) (e : Ending) (w' : World) : Prop :=
  Below w.heap.size w w' ∧ ((ReadOk p l ∧ ∃ B c, e = .returned (.tuple #[.slice B (cntPg l) c, .bool true]) ∧ RowAt encI 1 w' B (numsTo (cntPg l)) ∧ ∀ a, B = some a → w.heap.size ≤ a.block) ∨ (¬ ReadOk p l ∧ e = .returned (.tuple #[.slice none 0 0, .bool false])))

theorem made_ints (n : Nat) : madeCells #[.int .i64 0] n = ints (List.replicate n 0) := by
  apply Array.ext
  · simp [size_madeCells, ints]
  · intro i h1 h2
    simp [madeCells, ints, Nat.mod_one]

theorem wf_place (x : Slot) (h : 0 ≤ x.sheet ∧ x.sheet ≤ 2000000 ∧ 0 ≤ x.side ∧ x.side ≤ 2000000 ∧ 0 ≤ x.row ∧ x.row ≤ 2000000 ∧ 0 ≤ x.col ∧ x.col ≤ 2000000) : wf4 (pl x) := by
  obtain ⟨x0, x1, x2, x3, x4⟩ := x
  simp only at h
  unfold wf4 pl
  simp only
  exact ⟨WalkArith.wf_i64 (by omega), WalkArith.wf_i64 (by omega), WalkArith.wf_i64 (by omega), WalkArith.wf_i64 (by omega)⟩

theorem all_bd (p : Plan) (n : Int) (x : Slot) (hx : x ∈ allP p n) : 0 ≤ x.sheet ∧ x.sheet ≤ 2000000 ∧ 0 ≤ x.side ∧ x.side ≤ 2000000 ∧ 0 ≤ x.row ∧ x.row ≤ 2000000 ∧ 0 ≤ x.col ∧ x.col ≤ 2000000 := by
  have hl := len_all_le p n
  unfold allP at hx hl
  by_cases h : mayP p = true ∧ 0 ≤ n ∧ n ≤ 999999
  · rw [if_pos h] at hx hl
    rw [List.length_map, List.length_range] at hl
    obtain ⟨j, hj, e⟩ := List.mem_map.1 hx
    rw [List.mem_range] at hj
    subst e
    have hjb : j ≤ 1000511 := by omega
    unfold slotP
    split
    · unfold gridAt
      simp only
      have a1 := Nat.div_le_self j (p.rows.toNat * p.cols.toNat * p.sides.toNat)
      have a2 := Nat.le_trans (Nat.mod_le (j / (p.rows.toNat * p.cols.toNat)) p.sides.toNat) (Nat.div_le_self j (p.rows.toNat * p.cols.toNat))
      have a3 := Nat.le_trans (Nat.mod_le (j / p.cols.toNat) p.rows.toNat) (Nat.div_le_self j p.cols.toNat)
      have a4 := Nat.mod_le j p.cols.toNat
      generalize j / (p.rows.toNat * p.cols.toNat * p.sides.toNat) = y1 at *
      generalize j / (p.rows.toNat * p.cols.toNat) % p.sides.toNat = y2 at *
      generalize j / p.cols.toNat % p.rows.toNat = y3 at *
      generalize j % p.cols.toNat = y4 at *
      omega
    · unfold bookAt
      simp only
      omega
  · rw [if_neg h] at hx; cases hx

set_option maxHeartbeats 4000000 in
theorem read_no (kd r c s sh : Int) (A : Option Addr) (cp : Nat) (l : List Slot) (w : World) (hm : mayP ⟨kd, r, c, s, sh⟩ = false) :
    Calls Try.prog 16 #[.agg #[.int .i64 kd, .int .i64 r, .int .i64 c, .int .i64 s, .int .i64 sh], .slice A l.length cp] w (ReadGives ⟨kd, r, c, s, sh⟩ l w) := by
  have co := fun W => of_any kd r c s sh W
  have E := Lib.hid (show ¬ ReadOk ⟨kd, r, c, s, sh⟩ l from fun h => by rw [h.1] at hm; cases hm)
  rw [hm] at co
  clear hm
  rcases way3 kd with h | h | h
  all_goals
    rw [h] at co
    clear h
    go_enter Try.func16, Try.ntmps16
    go_wp2_with fail
    refine (co _).mono ?_
    rintro e w1 ⟨rfl, hb⟩
    go_wp2_with fail
    go_ret2
    exact ⟨bl (bt (bl (Below.refl _ _) _) hb) _, .inr ⟨E.out, rfl⟩⟩

theorem made_map (w : World) (o o2 : Obj) : MapIs (((w.alloc o).alloc (.map #[] 0)).alloc o2) (w.heap.size + 1) 0 (.map []) := by
  have := (World.ownsMap_made (H := Unit) (w.alloc o) Try.prog 56 (plainElem Try.prog 3)).alloc o2
  simpa using this
theorem made_box (w : World) (o o2 : Obj) (t : TypeId) (cs : Array Value) : Blk (((w.alloc o).alloc o2).alloc (.cells cs t)) (w.heap.size + 1 + 1) t cs := by
  have := Blk.new ((w.alloc o).alloc o2) t cs
  simpa using this
theorem row_of_vals {w : World} {og n : Nat} {vals : List Int} (h : Blk w og 3 (ints vals)) (hl : vals.length = n) (hv : ∀ q : Nat, q < n → vals[q]? = some (q : Int)) : RowAt encI 1 w (some ⟨og, 0, none⟩) (numsTo n) := by
  have e : vals = numsTo n := by
    apply List.ext_getElem?
    intro i
    by_cases hi : i < n
    · rw [hv i hi]
      unfold numsTo
      rw [List.getElem?_map, List.getElem?_range hi]; rfl
    · rw [List.getElem?_eq_none (by omega), List.getElem?_eq_none (by unfold numsTo; simp; omega)]
  subst e
  intro i x hx
  refine ⟨og, 0, rfl, h.lt, fun c v hv' => ?_⟩
  have hc : c = 0 := by
    have := (List.getElem?_eq_some_iff.1 hv').1
    simp [encI] at this; exact this
  subst hc
  simp [encI] at hv'
  subst hv'
  rw [Nat.zero_add, Nat.mul_one, Nat.add_zero, h.cell i, ints_get hx]

set_option maxRecDepth 100000 in
set_option maxHeartbeats 16000000 in
theorem read_yes (kd r c s sh : Int) (A : Option Addr) (cp : Nat) (l : List Slot) (w : World) (hm : mayP ⟨kd, r, c, s, sh⟩ = true) (hA : RowAt encSl 5 w A l) (hw : ∀ x, x ∈ l → wfS x) (hl : l.length ≤ 2000) :
    Calls Try.prog 16 #[.agg #[.int .i64 kd, .int .i64 r, .int .i64 c, .int .i64 s, .int .i64 sh], .slice A l.length cp] w (ReadGives ⟨kd, r, c, s, sh⟩ l w) := by
  have hk : kd = 1 ∨ kd = 2 := by
    rcases may_cases _ hm with h | h
    · exact .inl h.1
    · exact .inr h.1
  have hb1 : 1 ≤ r ∧ r ≤ 16 ∧ 1 ≤ c ∧ c ≤ 16 ∧ 1 ≤ s ∧ s ≤ 2 := by
    rcases may_cases _ hm with h | h
    · exact ⟨h.2.1, h.2.2.1, h.2.2.2.1, h.2.2.2.2.1, h.2.2.2.2.2.1, h.2.2.2.2.2.2.1⟩
    · simp only at h; omega
  obtain ⟨e1, e2, e3, e4⟩ := prod_bd r c s hb1.1 hb1.2.1 hb1.2.2.1 hb1.2.2.2.1 hb1.2.2.2.2.1 hb1.2.2.2.2.2
  have co := fun W => of_any kd r c s sh W
  rw [hm] at co
  have HM := Lib.hid hm
  have HA := Lib.hid hA
  have HW := Lib.hid hw
  have hmm := @run_makeMap Try.prog
  have hl' : ¬ 999999 + r * c * s < (l.length : Int) := by omega
  have hcl := cntPg_le l l.length
  rw [List.take_length] at hcl
  have ca := fun W => all_any kd r c s sh (cntPg l) W
  have hwL : ∀ x, x ∈ allP ⟨kd, r, c, s, sh⟩ (cntPg l) → wf4 (pl x) ∧ x.page < ((cntPg l : Nat) : Int) := fun x hx => ⟨wf_place x (all_bd _ _ x hx), by
    obtain ⟨j, _, e⟩ := (mem_all _ _ hm (by omega) (by omega) x).1 hx
    rw [← e, page_prog]
    split <;> omega⟩
  have hmem : ∀ q : Nat, q < cntPg l → ∃ x, x ∈ allP ⟨kd, r, c, s, sh⟩ (cntPg l) ∧ x.page = (q : Int) := fun q h1 => ⟨_, at_mem ⟨kd, r, c, s, sh⟩ (cntPg l) q hm (by omega) (by omega) (by omega) (by omega), page_at _ _ _⟩
  have hLl := len_all_le ⟨kd, r, c, s, sh⟩ (cntPg l)
  have hrk : ReadOk ⟨kd, r, c, s, sh⟩ l ↔ ((allP ⟨kd, r, c, s, sh⟩ (cntPg l)).length = l.length ∧ (l.map pl).Nodup ∧ ∀ x, x ∈ allP ⟨kd, r, c, s, sh⟩ (cntPg l) → x ∈ l) := ⟨fun h => h.2, fun h => ⟨hm, h⟩⟩
  unfold GivesAll at ca
  generalize allP ⟨kd, r, c, s, sh⟩ (cntPg l) = L at ca hwL hmem hLl hrk
  have CA := Lib.hid ca
  have HWL := Lib.hid hwL
  have HMEM := Lib.hid hmem
  have HRK := Lib.hid hrk
  clear hm hA hw hb1 ca hwL hmem hrk
  rcases hk with rfl | rfl
  all_goals
    first | rw [wayV_grid] at co | rw [wayV_book] at co
    go_enter Try.func16, Try.ntmps16
    go_wp2_with fail
    refine (co _).mono ?_
    rintro e w1 ⟨rfl, hb⟩
    have hP := (Blk.new w 23 #[.int .i64 _, .int .i64 r, .int .i64 c, .int .i64 s, .int .i64 sh]).keep hb
    have hz : w.heap.size < w1.heap.size := hP.lt
    obtain ⟨p0, p1, p2, p3, p4⟩ := hP.facts5
    have B1 := Lib.hid (bt (bl (Below.refl _ _) _) hb)
    clear hb
    go_wp2_with fail
    refine gen_world (F := fun W => Blk W w.heap.size 23 #[.int .i64 _, .int .i64 r, .int .i64 c, .int .i64 s, .int .i64 sh] ∧ Blk W (w1.heap.size + 1 + 1) 54 #[.map (some (w1.heap.size + 1))] ∧ MapIs W (w1.heap.size + 1) 0 (.map []) ∧ Below w.heap.size w W) _ ⟨((hP.alloc _).alloc _).alloc _, made_box w1 _ _ _ _, made_map w1 _ _, bl (bl (bl B1.out _) _) _⟩ ?_
    rintro W ⟨hP, h9, hM, hB⟩
    have HP := Lib.hid hP
    have H9 := Lib.hid h9
    have HM0 := Lib.hid hM
    have HB := Lib.hid hB
    have HAW := Lib.hid (HA.out.below hB)
    have hg0 : w.heap.size < w1.heap.size + 1 := by omega
    have hg9 : w1.heap.size + 1 < w1.heap.size + 1 + 1 := by omega
    have hg9W : w1.heap.size + 1 + 1 < W.heap.size := h9.lt
    clear hP h9 hM hB p0 p1 p2 p3 p4 B1 hz
    generalize w1.heap.size + 1 = mb at H9 HM0 hg0 hg9 hg9W ⊢
    generalize mb + 1 = g9 at H9 hg9 hg9W ⊢
    have HAb : Hid (∀ a, A = some a → l = [] ∨ a.block < w.heap.size) := fun a e => by
      rcases Nat.eq_zero_or_pos l.length with h | h
      · exact .inl (List.eq_nil_of_length_eq_zero h)
      · obtain ⟨b, off, e2, hb, _⟩ := HA.out 0 l[0] (List.getElem?_eq_getElem h)
        rw [e] at e2; cases e2; exact .inr hb
    go_loopw [8, 39] (fun n i wr => ∃ (k m : Nat) (D : DataW Unit), k ≤ l.length ∧ i = .int .i64 k ∧ n = .int .i64 m ∧ m ≤ k ∧ Hid (m = cntPg (l.take k)) ∧ W.heap.size ≤ wr.heap.size ∧ Hid (MapIs wr mb k D) ∧ Hid (MapInv (l.take k) D) ∧ Hid (W.grownBy wr (some mb)))
      (fun _ i _ => l.length - (intOf i).toNat)
    case atStart => exact ⟨0, 0, .map [], Nat.zero_le _, rfl, rfl, Nat.le_refl _, rfl, Nat.le_refl _, HM0.out, MapInv.start, gb_refl _ _⟩
    case round =>
      obtain ⟨k, m, D, hk, rfl, rfl, hmk, HCM, hsz, HMM, HMI, HG⟩ := hrel
      by_cases hlt : k < l.length
      · have hlt' : (k : Int) < (l.length : Int) := by omega
        obtain ⟨⟨x0, x1, x2, x3, x4⟩, hx⟩ : ∃ x, l[k]? = some x := ⟨_, List.getElem?_eq_getElem hlt⟩
        have hxw := HW.out _ (List.mem_iff_getElem?.2 ⟨k, hx⟩)
        have hkey := keyOf_spot _ hxw.1
        dsimp only [keyV, pl] at hkey
        have hwp := hxw.2
        simp only at hwp
        have HSN := Lib.hid (HMI.out.snoc (fun y hy => (HW.out y (List.mem_of_mem_take hy)).1) _ hxw.1)
        have HCN := Lib.hid (cntPg_snoc l k _ hx)
        have HTS := Lib.hid (take_snoc l k _ hx)
        obtain ⟨b, off, rfl, hblt, c0, c1, c2, c3, c4⟩ := (HAW.out.grown HG.out (fun a e h => by
          rcases HAb.out a e with h' | h'
          · rw [h'] at hx; simp at hx
          · simp at h; omega)).slot hx
        have m0 := (H9.out.grown HG.out (by simp; omega)).cell 0
        have hzb : mb < wr.heap.size := HMM.out.lt
        have HMB := Lib.hid (HMM.out.alloc (.cells #[.int .i64 x0, .int .i64 x1, .int .i64 x2, .int .i64 x3, .int .i64 x4] 37))
        have hz9 : g9 < wr.heap.size := by omega
        clear hx hxw
        go_wp2_with (at_mapUpdate; refine wpList_mapUpdate_own _ rfl _ _ _ 54 rfl 56 3 spotLaw Try.underlying54 _ mb k D rfl HMB.out (by unfold maxLen; omega) _ _ _ rfl rfl hkey (.lit (.int .i64 x4)) [] (plainElem_int Try.underlying3 hwp) ?_)
        intro w5 hown5 hgrow5
        have HX5 := (Blk.new wr 37 #[.int .i64 x0, .int .i64 x1, .int .i64 x2, .int .i64 x3, .int .i64 x4]).grown hgrow5 (by simp; omega)
        have y4 := HX5.cell 4
        have HM5 := Lib.hid hown5
        have HI5 : Hid (MapInv (l.take (k + 1)) (D.put (keyL (x0, x1, x2, x3)) (.lit (.int .i64 x4)))) := by
          show MapInv _ _
          rw [HTS.out]; exact HSN.out
        have HG5 := Lib.hid (gb_trans (gb_alloc HG.out (.cells #[.int .i64 x0, .int .i64 x1, .int .i64 x2, .int .i64 x3, .int .i64 x4] 37)) hgrow5)
        have hsz5 : W.heap.size ≤ w5.heap.size := HG5.out.size
        clear hown5 hgrow5 HX5 c0 c1 c2 c3 c4 m0 hkey hwp HMB HSN
        by_cases hp : 0 ≤ x4
        · have HC5 : Hid (m + 1 = cntPg (l.take (k + 1))) := by show _ = _; rw [HCN.out, ← HCM.out]; simp [hp]
          go_wp2_with fail
          go_roundw
          case rel => exact ⟨k + 1, m + 1, _, by omega, by go_num, by go_num, by omega, HC5.out, hsz5, HM5.out, HI5.out, HG5.out⟩
          case measure => simp [intOf]; omega
        · have HC5 : Hid (m = cntPg (l.take (k + 1))) := by show _ = _; rw [HCN.out, ← HCM.out]; simp [hp]
          go_wp2_with fail
          go_roundw
          case rel => exact ⟨k + 1, m, _, by omega, by go_num, rfl, by omega, HC5.out, hsz5, HM5.out, HI5.out, HG5.out⟩
          case measure => simp [intOf]; omega
      · have hlt' : ¬ (k : Int) < (l.length : Int) := by omega
        have hek : k = l.length := by omega
        have HCM2 : Hid (cntPg l = m) := by show _ = _; have := HCM.out; rw [hek, List.take_length] at this; exact this.symm
        have HMI2 : Hid (MapInv l D) := by show MapInv _ _; have := HMI.out; rw [hek, List.take_length] at this; exact this
        have hml : m ≤ 2000 := by omega
        have ca2 := CA.out
        rw [HCM2.out] at ca2
        have CA2 := Lib.hid ca2
        clear ca2
        obtain ⟨p0, p1, p2, p3, p4⟩ := (HP.out.grown HG.out (by simp; omega)).facts5
        have hwl2 := HWL.out
        rw [HCM2.out] at hwl2
        have HWL2 := Lib.hid hwl2
        have hmem2 := HMEM.out
        rw [HCM2.out] at hmem2
        have HMEM2 := Lib.hid hmem2
        have hl9 : L.length ≤ 1000511 := hLl
        clear hek hlt hwl2 hmem2
        go_wp2_with fail
        refine (CA2.out _).mono ?_
        rintro e w6 ⟨A2, cp2, rfl, hl1, hl2, hA2, hb6⟩
        have HA2 := Lib.hid hA2
        have H96 := Lib.hid ((H9.out.grown HG.out (by simp; omega)).keep hb6)
        have HM6 := Lib.hid (HMM.out.below hb6)
        have HB6 : Hid (Below w.heap.size w w6) := bt (HB.out.grown HG.out (by omega) (fun j e => by cases e; omega)) hb6
        have hlen := HM6.out.len Try.underlying54
        have m0 := H96.out.cell 0
        have hz96 : g9 < w6.heap.size := H96.out.lt
        have hzm6 : mb < w6.heap.size := HM6.out.lt
        clear hA2 hb6 p0 p1 p2 p3 p4
        by_cases hq1 : L.length = l.length
        · by_cases hq2 : size D = l.length
          · have hb1 : ((L.length : Int) != (l.length : Int)) = false := by simp [hq1]
            have hb2 : (((size D : Nat) : Int) != (l.length : Int)) = false := by simp [hq2]
            have hmk := run_make_row' (P := Try.prog) 31 3 (.int .i64 0) 8 Try.underlying31 (by kernel_rfl) rfl .i64 .i64 m (by omega) (by omega)
            simp only [made_ints] at hmk
            have HND : Hid (l.map pl).Nodup := HMI2.out.eq_.1 hq2
            have HQ1 := Lib.hid hq1
            clear hq1 hq2
            go_wp2_with fail
            refine gen_world (F := fun W => Lies l D k m mb w6.heap.size g9 (w6.heap.size + 1) W (List.replicate m 0) ∧ RowAt encSl 5 W A2 L ∧ Below w.heap.size w W) (G := fun W => Calls _ _ _ W _) _ ?_ ?_
            · exact ⟨⟨(H96.out.alloc _).alloc _, by have := Blk.new (w6.alloc (.cells (ints (List.replicate m 0)) 3)) 31 #[.slice (some ⟨w6.heap.size, 0, none⟩) m m]; simpa using this, (HM6.out.alloc _).alloc _, (Blk.new w6 _ _).alloc _, by simp⟩, (HA2.out.below (bl (Below.refl _ _) _)).below (bl (Below.refl _ _) _), bl (bl HB6.out _) _⟩
            rintro W2 ⟨hLi, hA2, hB2⟩
            refine (contains_tell l L D k m mb w6.heap.size g9 (w6.heap.size + 1) A2 cp2 _ W2 HMI2.out HND.out HWL2.out (by omega) (by omega) (by omega) hA2 ?_ hLi (by omega) hl9).mono ?_
            · intro a e
              rcases Nat.eq_zero_or_pos L.length with h | h
              · exact .inl (List.eq_nil_of_length_eq_zero h)
              · obtain ⟨b, off, e2, hb, _⟩ := HA2.out 0 L[0] (List.getElem?_eq_getElem h)
                rw [e] at e2; cases e2; exact .inr (Nat.ne_of_lt hb)
            rintro e w7 ⟨vs, hLs, hg7, ⟨rfl, h1, h2⟩ | ⟨rfl, h1⟩⟩
            · have s0 := hLs.h13.cell 0
              have HLS := Lib.hid hLs
              have HB7 : Hid (Below w.heap.size w w7) := hB2.grown hg7 hB2.size (fun j e => by cases e; exact HB6.out.size)
              have H1 := Lib.hid h1
              have H2 := Lib.hid h2
              have E := Lib.hid (HRK.out.2 ⟨HQ1.out, HND.out, h1⟩)
              clear hLi hA2 hB2 hLs hg7 h1 h2
              go_wp2_with fail
              go_ret2
              refine ⟨HB7.out, .inl ⟨E.out, some ⟨w6.heap.size, 0, none⟩, m, by rw [HCM2.out]; rfl, ?_, fun a e => by cases e; exact HB6.out.size⟩⟩
              rw [HCM2.out]
              refine row_of_vals HLS.out.ho HLS.out.hl fun q hq => ?_
              obtain ⟨x, hx, e⟩ := HMEM2.out q hq
              have := H2.out x hx (by omega)
              rw [e] at this
              simpa using this
            · have E := Lib.hid (show ¬ ReadOk ⟨_, r, c, s, sh⟩ l from fun h => by obtain ⟨x, hx, hn⟩ := h1; exact hn ((HRK.out.1 h).2.2 x hx))
              have HB7 : Hid (Below w.heap.size w w7) := hB2.grown hg7 hB2.size (fun j e => by cases e; exact HB6.out.size)
              clear hLi hA2 hB2 hLs hg7 h1
              go_wp2_with fail
              go_ret2
              exact ⟨HB7.out, .inr ⟨E.out, rfl⟩⟩
          · have hb1 : ((L.length : Int) != (l.length : Int)) = false := by simp [hq1]
            have hb2 : (((size D : Nat) : Int) != (l.length : Int)) = true := by simpa using (fun h => hq2 (by omega))
            have E := Lib.hid (show ¬ ReadOk ⟨_, r, c, s, sh⟩ l from fun h => hq2 (HMI2.out.eq_.2 (HRK.out.1 h).2.1))
            clear hq1 hq2
            go_wp2_with fail
            go_ret2
            exact ⟨HB6.out, .inr ⟨E.out, rfl⟩⟩
        · have hb1 : ((L.length : Int) != (l.length : Int)) = true := by simpa using (fun h => hq1 (by omega))
          have E := Lib.hid (show ¬ ReadOk ⟨_, r, c, s, sh⟩ l from fun h => hq1 (HRK.out.1 h).1)
          clear hq1
          go_wp2_with fail
          go_ret2
          exact ⟨HB6.out, .inr ⟨E.out, rfl⟩⟩
end Go.Proofs.Ythiplocjiamahaa
