/-
  (*print.writer).line: a word and numbers go behind what the writer holds; whether the numbers are near.
-/
import Derived.Test.YtloecpgfohhmlaaDoorPnc
import Derived.Test.YtloecpgfohhmlaaDoorPwb
import Derived.Test.YtloecpgfohhmlaaDoorShelf
import Derived.Lib.AppendIntMem
namespace Go.Proofs.YtloecpgfohhmlaaDoor
open Go.RowKit Go.Proofs.Prn

/-- A number that an int holds. -/
def I64 (n : Int) : Prop := -9223372036854775808 ≤ n ∧ n ≤ 9223372036854775807
def Tab (w : World) : Prop := Lib.TabIs Tryd.prog w "internal/strconv.uint64pow10" .u64 Lib.pow10Tab
theorem gPow : Tryd.prog.globalNamed "internal/strconv.uint64pow10" = some 1 := by kernel_rfl
theorem Tab.below {w w' : World} (h : Tab w) (hb : Below w.heap.size w w') : Tab w' := by
  unfold Tab Lib.TabIs World.var? at *
  rw [gPow] at h ⊢
  simp only [Option.bind_some] at h ⊢
  have hlt : 1 < w.heap.size := by
    rcases Nat.lt_or_ge 1 w.heap.size with h' | h'
    · exact h'
    · rw [Array.getElem?_eq_none h'] at h; cases h
  rw [hb.block _ hlt]
  exact h
theorem itoa_any (n : Int) (w : World) (h : I64 n) (hT : Tab w) : Calls Tryd.prog 30 #[.int .i64 n] w fun e w' => e = .returned (.string (bs (Lib.itoa n))) ∧ Below w.heap.size w w' := by
  refine (Tryd.strconv_Itoa n h.1 h.2 w hT).mono fun e w' ⟨he, k, os, hw⟩ => ⟨he, ?_⟩
  subst hw
  exact Lib.below_grow _ _ (Nat.le_refl _) _ _
theorem itoa_short (n : Int) (h : I64 n) : (Lib.itoa n).length ≤ 20 := by
  have key : ∀ u : Nat, u ≤ 9223372036854775808 → (Lib.decDigits u).length ≤ 19 := fun u hu => dec_len 18 u (by omega)
  obtain ⟨h1, h2⟩ := h
  unfold Lib.itoa
  split
  · have := key n.natAbs (by omega); simp; omega
  · have := key n.toNat (by omega); omega
theorem nums_short (l : List Int) (h : ∀ n ∈ l, I64 n) : (numsB l).length ≤ 21 * l.length := by
  induction l with
  | nil => exact Nat.le_refl _
  | cons n r ih =>
    have h1 := ih fun m hm => h m (by simp [hm])
    have h2 := itoa_short n (h n (by simp))
    simp only [numsB, List.cons_append, List.length_cons, List.length_append]; omega

/-- What a writer holds; below the heap's size at the start nothing has turned. -/
structure Wk (w0 : World) (b : Nat) (l : Bytes) (w : World) : Prop where
  wr : IsWr w0.heap.size b (Lib.byteCells l) w
  below : Below w0.heap.size w0 w
theorem Wk.lt {w0 w : World} {b : Nat} {l : Bytes} (h : Wk w0 b l w) : b < w.heap.size := by
  rcases h.wr with h | h
  · exact h.lt
  · exact h.lt
theorem WrAt.on {B b : Nat} {p : Value} {l : List Value} {w w' : World} (h : WrAt B b p l w) (hb : Below w.heap.size w w') : WrAt B b p l w' := by
  obtain ⟨h1, v, h2, h3, h4⟩ := h
  exact ⟨h1, v, (hb.block b (Array.getElem?_eq_some_iff.1 h2).1).trans h2, ob h3 hb, h4⟩
theorem Wk.on {w0 w w' : World} {b : Nat} {l : Bytes} (h : Wk w0 b l w) (hb : Below w.heap.size w w') : Wk w0 b l w' :=
  ⟨h.wr.imp (fun h => WrAt.on h hb) (fun h => WrAt.on h hb), h.below.trans (hb.mono h.below.size)⟩
/-- What is no row of bytes, and not the writer, stands. -/
structure Stay (b : Nat) (w w' : World) : Prop where
  size : w.heap.size ≤ w'.heap.size
  kept : Lib.OthersKept 5 (some b) w w'
theorem Stay.refl (b : Nat) (w : World) : Stay b w w := ⟨Nat.le_refl _, Lib.OthersKept.refl _ _ _⟩
theorem Stay.trans {b : Nat} {a c d : World} (h : Stay b a c) (k : Stay b c d) : Stay b a d := ⟨Nat.le_trans h.size k.size, h.kept.trans k.kept⟩
theorem Stay.of_below {b : Nat} {w w' : World} (h : Below w.heap.size w w') : Stay b w w' := ⟨h.size, fun k _ hk _ _ => (h.block k (Array.getElem?_eq_some_iff.1 hk).1).trans hk⟩
theorem Stay.blk {b g : Nat} {t : TypeId} {cs : Array Value} {w w' : World} (h : Stay b w w') (hb : Blk w g t cs) (hg : g ≠ b) (ht : t ≠ 5) : Blk w' g t cs :=
  h.kept g _ hb (fun e => hg (by injection e)) (fun c fz e => ht (by injection e))

theorem write_any (w0 : World) (b : Nat) (l : Bytes) (s : ByteArray) (w : World) (h : Wk w0 b l w) (hl : l.length + s.size ≤ 140737488355328) :
    Calls Tryd.prog 29 #[.pointer (some ⟨b, 0, none⟩), .string s] w fun e w' => (∃ v, e = .returned v) ∧ Wk w0 b (l ++ s.data.toList) w' ∧ Stay b w w' := by
  refine (writeString_any w0.heap.size b (Lib.byteCells l) s w h.wr (by rw [Lib.byteCells_length]; exact hl) h.below.size).mono fun e w' ⟨he, h1, h2, h3⟩ => ⟨⟨_, he⟩, ⟨.inr ?_, h.below.trans h2⟩, ?_, h3⟩
  · rw [Lib.byteCells_append]; exact h1
  · exact h2.size

theorem add_bs (x y : Bytes) (h : x.length + y.length ≤ 1000000000) (W : World) : (binOp .add 9 (.string (bs x)) (.string (bs y))).run Tryd.prog W = .ok (.string (bs (x ++ y))) W := by
  simp only [binOp]
  rw [run_string_add_sum W (bs x) (bs y) (by rw [bs_size, bs_size]; omega)]
  rw [bs, bs, ByteArray.mk_append_mk]; rfl

set_option maxHeartbeats 8000000 in
set_option maxRecDepth 100000 in
theorem line_any (w0 : World) (b g : Nat) (acc word : Bytes) (l : List Int) (c : Nat) (w : World) (hW : Wk w0 b acc w) (hA : Blk w g 3 (flatL encI l).toArray) (hgb : g ≠ b) (hl : l.length ≤ 7) (h64 : ∀ n ∈ l, I64 n)
    (hacc : acc.length ≤ 100000000) (hw : word.length ≤ 1000) (hT : Tab w0) :
    Calls Tryd.prog 16 #[.pointer (some ⟨b, 0, none⟩), .string (bs word), .slice (some ⟨g, 0, none⟩) l.length c] w fun e w' =>
      e = .returned (.bool (nearL l)) ∧ Wk w0 b (acc ++ lineB word l) w' ∧ Stay b w w' := by
  have HT := Lib.hid hT
  have H64 := Lib.hid h64
  have HA := Lib.hid hA
  have HW := Lib.hid hW
  have HL := Lib.hid (nums_short l h64)
  clear hT h64 hA hW
  go_enter Tryd.func16, Tryd.ntmps16
  go_wp2_with fail
  refine (write_any w0 b acc (bs word) _ HW.out (by rw [bs_size]; omega)).mono ?_
  rintro e w1 ⟨⟨v, rfl⟩, h1, s1⟩
  rw [bs_list] at h1
  have HW1 := Lib.hid h1
  have HS1 := Lib.hid s1
  clear h1 s1 HW
  go_wp2_with fail
  go_loopw [16] (fun i wr => ∃ k : Nat, i = .int .i64 k ∧ k ≤ l.length ∧ Hid (Wk w0 b (acc ++ word ++ numsB (l.take k)) wr) ∧ Hid (Stay b w wr)) (fun i _ => l.length - (intOf i).toNat)
  case atStart => exact ⟨0, rfl, Nat.zero_le _, by show Wk _ _ _ _; have := HW1.out; simpa [numsB] using this, HS1.out⟩
  case round =>
    obtain ⟨k, rfl, hk, HWk, HSk⟩ := hrel
    by_cases hlt : k < l.length
    · have hx : l[k]? = some l[k] := List.getElem?_eq_getElem hlt
      have hin := H64.out l[k] (List.getElem_mem hlt)
      have et : l.take (k + 1) = l.take k ++ [l[k]] := List.take_succ_eq_append_getElem hlt
      generalize l[k] = n at hx et hin
      have hcell : wr.cell? ⟨g, k, none⟩ = some (.int .i64 n) := by
        rw [(HSk.out.blk HA.out hgb (by decide)).cell]
        have := flat_int l k n hx
        simpa using this
      have hlt' : (k : Int) < (l.length : Int) := by omega
      have hsh := itoa_short n hin
      have HIN := Lib.hid hin
      have HE : Hid (acc ++ word ++ numsB (l.take (k + 1)) = (acc ++ word ++ numsB (l.take k)) ++ (bs (32 :: Lib.itoa n)).data.toList) := by
        show _ = _
        rw [et, numsB_append, bs_list]
        simp [numsB]
      have hlk : (numsB (l.take k)).length ≤ 21 * 7 := by
        have h1 := nums_short (l.take k) fun m hm => H64.out m (List.mem_of_mem_take hm)
        rw [List.length_take] at h1
        omega
      have HTk := Lib.hid (HT.out.below HWk.out.below)
      have hadd : ∀ W, (binOp .add 9 (.string ⟨#[32]⟩) (.string (bs (Lib.itoa n)))).run Tryd.prog W = .ok (.string (bs (32 :: Lib.itoa n))) W := fun W => add_bs [32] (Lib.itoa n) (by simp; omega) W
      have hop : ∀ W, (Op.stringOp .add ⟨#[32]⟩ (bs (Lib.itoa n))).run Tryd.prog W = .ok (.string (bs (32 :: Lib.itoa n))) W := fun W => hadd W
      clear hx et hin
      go_wp2_with fail
      refine wp_region_from_tail 6 (by kernel_rfl) (by kernel_rfl) ?_
      simp only [List.take_succ_cons, List.take_zero, List.drop_succ_cons, List.drop_zero]
      repeat (go_big_quiet_step (first | (go_at_call 30; exact calls_from (itoa_any n _ HIN.out (HTk.out.below (From.below _))))))
      refine wpQuiet_nil ?_
      intro _ hw'
      obtain ⟨p, rfl⟩ := hw'
      have HW2 := Lib.hid (HWk.out.on p.below)
      have HS2 := Lib.hid (HSk.out.trans (.of_below p.below))
      clear hadd hop hcell HWk HSk HTk
      generalize p.W = W2 at HW2 HS2 ⊢
      clear p
      go_wp2_with fail
      refine (write_any w0 b _ (bs (32 :: Lib.itoa n)) _ HW2.out (by rw [bs_size]; simp; omega)).mono ?_
      rintro e w3 ⟨⟨v3, rfl⟩, h3, s3⟩
      have HW3 : Hid (Wk w0 b (acc ++ word ++ numsB (l.take (k + 1))) w3) := by show Wk _ _ _ _; rw [HE.out]; exact h3
      have HS3 := Lib.hid (HS2.out.trans s3)
      clear h3 s3 HW2 HS2 HE
      go_wp2_with fail
      go_roundw
      case rel => exact ⟨k + 1, by go_num, by omega, HW3.out, HS3.out⟩
      case measure => simp [intOf]; omega
    · have hlt' : ¬ (k : Int) < (l.length : Int) := by omega
      have hlk : (numsB (l.take k)).length ≤ 21 * 7 := by
        have h1 := nums_short (l.take k) fun m hm => H64.out m (List.mem_of_mem_take hm)
        rw [List.length_take] at h1
        omega
      have HE : Hid (acc ++ lineB word l = (acc ++ word ++ numsB (l.take k)) ++ (bs [10]).data.toList) := by
        show _ = _
        rw [bs_list, List.take_of_length_le (by omega)]
        simp [lineB, lineT]
      go_wp2_with fail
      refine (write_any w0 b _ (bs [10]) _ HWk.out (by rw [bs_size]; simp; omega)).mono ?_
      rintro e w3 ⟨⟨v3, rfl⟩, h3, s3⟩
      have HW3 : Hid (Wk w0 b (acc ++ lineB word l) w3) := by show Wk _ _ _ _; rw [HE.out]; exact h3
      have HS3 := Lib.hid (HSk.out.trans s3)
      have hA3 := HS3.out.blk HA.out hgb (by decide)
      have hrow : RowAt encI 1 w3 (some ⟨g, 0, none⟩) l := fun i x hx => ⟨g, 0, rfl, hA3.lt, fun j u hu => by
        rw [hA3.cell]
        have := flatL_at encI_len l i x hx j u hu
        rw [Nat.zero_add]
        simpa using this⟩
      have HRW := Lib.hid hrow
      clear h3 s3 HWk HSk HE hA3 hrow
      go_wp2_with fail
      refine (near_any (some ⟨g, 0, none⟩) c l _ HRW.out (by omega)).mono ?_
      rintro e w' ⟨rfl, rfl⟩
      go_wp2_with fail
      go_ret
      exact ⟨rfl, HW3.out, HS3.out⟩
end Go.Proofs.YtloecpgfohhmlaaDoor
