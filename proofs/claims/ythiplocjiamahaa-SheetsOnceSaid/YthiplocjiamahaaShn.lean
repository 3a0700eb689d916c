/-
  sheets.Read's closure, and slices.ContainsFunc over it: whether a slot is among those that were put into the map; the pages are written behind.
-/
import Derived.Test.YthiplocjiamahaaShm
import Derived.Deep.OwnRows
namespace Go.Proofs.Ythiplocjiamahaa
open Go.RowKit Go.Proofs.Shs Go.Maps

def ints (vals : List Int) : Array Value := (vals.map (Value.int .i64)).toArray
theorem ints_get {vals : List Int} {i : Nat} {x : Int} (h : vals[i]? = some x) : (ints vals)[i]? = some (.int .i64 x) := by
  unfold ints; simp [h]
theorem ints_set (vals : List Int) (i : Nat) (x : Int) : (ints vals).setIfInBounds i (.int .i64 x) = ints (vals.set i x) := by
  unfold ints; simp [List.map_set]

abbrev MapIs (w : World) (mb n : Nat) (D : DataW Unit) : Prop := w.ownsMap Try.prog 56 (plainElem Try.prog 3) mb n D

theorem MapIs.kept' {w w' : World} {mb n og : Nat} {D : DataW Unit} (h : MapIs w mb n D) (hg : w.grownBy w' (some og)) (hne : mb ≠ og) : MapIs w' mb n D := World.ownsMap.kept h hg (by simp [hne])
theorem MapIs.below {w w' : World} {mb n : Nat} {D : DataW Unit} (h : MapIs w mb n D) (hb : Below w.heap.size w w') : MapIs w' mb n D :=
  World.ownsMap.kept (row := none) h ⟨hb.os, hb.tape, hb.output, hb.size, fun k hk _ => hb.block k hk⟩ (by simp)
theorem gb_alloc {w w' : World} {r : Option Nat} (h : w.grownBy w' r) (o : Obj) : w.grownBy (w'.alloc o) r :=
  ⟨h.os, h.tape, h.output, Nat.le_trans h.size (by simp), fun i hi hne => (Below.heap_alloc w' o i (Nat.lt_of_lt_of_le hi h.size)).trans (h.block i hi hne)⟩
theorem gb_set {w w' : World} {g : Nat} (h : w.grownBy w' (some g)) (i : Nat) (u : Value) : w.grownBy (w'.setCell ⟨g, i, none⟩ u) (some g) :=
  ⟨h.os, h.tape, h.output, by simpa [World.setCell] using h.size, fun k hk hne => (Below.heap_setCell w' _ u k (fun e => hne (by rw [e]))).trans (h.block k hk hne)⟩
theorem gb_trans {a b c : World} {r : Option Nat} (h : a.grownBy b r) (k : b.grownBy c r) : a.grownBy c r :=
  ⟨k.os.trans h.os, k.tape.trans h.tape, k.output.trans h.output, Nat.le_trans h.size k.size, fun i hi hne => (k.block i (Nat.lt_of_lt_of_le hi h.size) hne).trans (h.block i hi hne)⟩
theorem gb_refl (w : World) (r : Option Nat) : w.grownBy w r := ⟨rfl, rfl, rfl, Nat.le_refl _, fun _ _ _ => rfl⟩

/-- The look-up of a slot's place. -/
theorem look_any {l : List Slot} {D : DataW Unit} (hi : MapInv l D) (hn : (l.map pl).Nodup) {w : World} {mb n : Nat} (hm : MapIs w mb n D) (x : Slot) (hx : wf4 (pl x)) :
    ∃ (c : Int) (b : Bool), (Instr.lookup 54 (.map (some mb)) (keyV (pl x)) true).run Try.prog w = .ok (.tuple #[.int .i64 c, .bool b]) w ∧ (x ∈ l ↔ b = true ∧ c = x.page) := by
  obtain ⟨v, ps, hrun, hv⟩ := hm.look_ok spotLaw Try.underlying54 (zeroInt w) (plainElem_int Try.underlying3 (by decide)) (keyOf_spot (pl x) hx)
  obtain ⟨c, rfl, hc, _⟩ := plainElem_int_inv Try.underlying3 hv
  simp only [Prod.mk.injEq] at hc
  exact ⟨c, _, hrun, hi.look hn x hx c hc.1⟩

set_option maxHeartbeats 4000000 in
theorem tell_any (l : List Slot) (D : DataW Unit) (nn : Nat) (vals : List Int) (mb og g9 g13 : Nat) (x : Slot) (w : World) (hi : MapInv l D) (hn : (l.map pl).Nodup) (hx : wf4 (pl x))
    (h9 : Blk w g9 54 #[.map (some mb)]) (h13 : Blk w g13 31 #[.slice (some ⟨og, 0, none⟩) vals.length vals.length]) (hm : MapIs w mb nn D) (ho : Blk w og 3 (ints vals)) (hp : x.page < (vals.length : Int)) (_hl : vals.length ≤ 1000000) :
    Calls Try.prog 31 #[vSl x, .pointer (some ⟨g9, 0, none⟩), .pointer (some ⟨g13, 0, none⟩)] w fun e w' => e = .returned (.bool (!decide (x ∈ l))) ∧ ∃ vals' : List Int, Blk w' og 3 (ints vals') ∧ vals'.length = vals.length ∧ (x ∈ l → vals' = if 0 ≤ x.page then vals.set x.page.toNat x.page else vals) ∧ w.grownBy w' (some og) := by
  obtain ⟨x0, x1, x2, x3, x4⟩ := x
  obtain ⟨c, b, hrun, hiff⟩ := look_any hi hn (hm.alloc (.cells #[.int .i64 x0, .int .i64 x1, .int .i64 x2, .int .i64 x3, .int .i64 x4] 37)) ⟨x0, x1, x2, x3, x4⟩ hx
  dsimp only [keyV, pl] at hrun
  have m0 := (h9.alloc (.cells #[.int .i64 x0, .int .i64 x1, .int .i64 x2, .int .i64 x3, .int .i64 x4] 37)).cell 0
  have s0 := (h13.alloc (.cells #[.int .i64 x0, .int .i64 x1, .int .i64 x2, .int .i64 x3, .int .i64 x4] 37)).cell 0
  have HO := Lib.hid (ho.alloc (.cells #[.int .i64 x0, .int .i64 x1, .int .i64 x2, .int .i64 x3, .int .i64 x4] 37))
  have HI := Lib.hid hiff
  have HO0 := Lib.hid ho
  have hog : og < w.heap.size := ho.lt
  have hg9 : g9 < w.heap.size := h9.lt
  have hg13 : g13 < w.heap.size := h13.lt
  simp only at hp
  clear hi hn hm h9 h13 ho hx hiff
  have G0 : Hid (w.grownBy (w.alloc (.cells #[.int .i64 x0, .int .i64 x1, .int .i64 x2, .int .i64 x3, .int .i64 x4] 37)) (some og)) := gb_alloc (gb_refl w _) _
  by_cases h0 : 0 ≤ x4
  · obtain ⟨q, rfl⟩ := Int.eq_ofNat_of_zero_le h0
    have hq : q < vals.length := by omega
    have c0 := HO.out.cell q
    rw [ints_get (List.getElem?_eq_getElem hq)] at c0
    have f0 := HO.out.frozen q
    cases b with
    | false =>
      have E := Lib.hid (show (⟨x0, x1, x2, x3, (q : Int)⟩ : Slot) ∉ l from fun h => by have := HI.out.1 h; simp at this)
      go_enter Try.func31, Try.ntmps31
      go_wp2_with fail
      go_ret
      exact ⟨ret_bool (by simp [E.out]), vals, HO.out, rfl, fun h => absurd h E.out, G0.out⟩
    | true =>
      by_cases hc : c = (q : Int)
      · have E := Lib.hid (show (⟨x0, x1, x2, x3, (q : Int)⟩ : Slot) ∈ l from HI.out.2 ⟨rfl, hc⟩)
        subst hc
        go_enter Try.func31, Try.ntmps31
        go_wp2_with fail
        go_ret
        refine ⟨ret_bool (by simp [E.out]), vals.set q (q : Int), ?_, by simp, fun _ => by simp, gb_alloc (gb_set (gb_refl w _) _ _) _⟩
        have := (HO0.out.set_ q (.int .i64 (q : Int))).alloc (.cells #[.int .i64 x0, .int .i64 x1, .int .i64 x2, .int .i64 x3, .int .i64 q] 37)
        rw [ints_set] at this
        exact this
      · have E := Lib.hid (show (⟨x0, x1, x2, x3, (q : Int)⟩ : Slot) ∉ l from fun h => hc (HI.out.1 h).2)
        have hc' : (c != (q : Int)) = true := by simpa using hc
        clear hc
        go_enter Try.func31, Try.ntmps31
        go_wp2_with fail
        go_ret
        refine ⟨ret_bool (by simp [E.out]), vals.set q c, ?_, by simp, fun h => absurd h E.out, gb_alloc (gb_set (gb_refl w _) _ _) _⟩
        have := (HO0.out.set_ q (.int .i64 c)).alloc (.cells #[.int .i64 x0, .int .i64 x1, .int .i64 x2, .int .i64 x3, .int .i64 q] 37)
        rw [ints_set] at this
        exact this
  · have h0' : decide (0 ≤ x4) = false := by simpa using h0
    cases b with
    | false =>
      have E := Lib.hid (show (⟨x0, x1, x2, x3, x4⟩ : Slot) ∉ l from fun h => by have := HI.out.1 h; simp at this)
      go_enter Try.func31, Try.ntmps31
      go_wp2_with fail
      go_ret
      exact ⟨ret_bool (by simp [E.out]), vals, HO.out, rfl, fun h => absurd h E.out, G0.out⟩
    | true =>
      by_cases hc : c = x4
      · have E := Lib.hid (show (⟨x0, x1, x2, x3, x4⟩ : Slot) ∈ l from HI.out.2 ⟨rfl, hc⟩)
        subst hc
        go_enter Try.func31, Try.ntmps31
        go_wp2_with fail
        go_ret
        exact ⟨ret_bool (by simp [E.out]), vals, HO.out, rfl, fun _ => by first | rfl | (rw [if_neg (by simp only; omega)]), G0.out⟩
      · have E := Lib.hid (show (⟨x0, x1, x2, x3, x4⟩ : Slot) ∉ l from fun h => hc (HI.out.1 h).2)
        have hc' : (c != x4) = true := by simpa using hc
        clear hc
        go_enter Try.func31, Try.ntmps31
        go_wp2_with fail
        go_ret
        exact ⟨ret_bool (by simp [E.out]), vals, HO.out, rfl, fun h => absurd h E.out, G0.out⟩
end Go.Proofs.Ythiplocjiamahaa
