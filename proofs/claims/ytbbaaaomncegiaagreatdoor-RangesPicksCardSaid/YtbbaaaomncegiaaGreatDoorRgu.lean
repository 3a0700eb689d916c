/-
  Words for strings: bytes as a string's, rows of strings, the table that Itoa reads; strings.CutPrefix of one byte.
-/
import Derived.Test.YtbbaaaomncegiaaGreatDoorRgd
import Derived.Test.YtbbaaaomncegiaaGreatDoorRnt
import Derived.Test.YtbbaaaomncegiaaGreatDoorShelf
import Derived.Lib.LaidTab
import Derived.Lib.Join
import Derived.Lib.AppendIntMem
namespace Go.Proofs.YtbbaaaomncegiaaGreatDoor
open Go.RowKit Go.Proofs.Spn Go.Proofs.Rng Go.Proofs.Prn

theorem Tryz.infoStr : (Tryz.prog.info? 9).map (fun i => (i.zero, i.size, i.bytes)) = some (some (.string ByteArray.empty), 1, 16) := by kernel_rfl
def bs (l : Bytes) : ByteArray := ⟨l.toArray⟩
theorem bs_list (l : Bytes) : (bs l).data.toList = l := rfl
theorem bs_size (l : Bytes) : (bs l).size = l.length := by
  show l.toArray.size = _
  simp
theorem bs_self (s : ByteArray) : bs s.data.toList = s := by
  cases s; rfl
theorem size_list (s : ByteArray) : s.data.toList.length = s.size := by
  rw [Array.length_toList]; rfl
theorem get_list (s : ByteArray) (k : Nat) (h : k < s.size) : s.data.toList[k]'(by rw [size_list]; exact h) = s[k]'h := by
  rw [Array.getElem_toList]; rfl
def encT (s : ByteArray) : List Value := [.string s]
theorem encT_len (s : ByteArray) : (encT s).length = 1 := rfl
theorem encT_one (s : ByteArray) : ∀ u ∈ encT s, u.oneCell' = true := by
  intro u hu
  rw [List.mem_singleton.1 hu]
  rfl

def I64 (n : Int) : Prop := -9223372036854775808 ≤ n ∧ n ≤ 9223372036854775807
def Tab (w : World) : Prop := Lib.TabIs Tryz.prog w "internal/strconv.uint64pow10" .u64 Lib.pow10Tab
theorem gPow : Tryz.prog.globalNamed "internal/strconv.uint64pow10" = some 1 := by kernel_rfl
theorem Tab.below {w w' : World} (h : Tab w) (hb : Below w.heap.size w w') : Tab w' := by
  unfold Tab Lib.TabIs World.var? at *
  rw [gPow] at h ⊢
  simp only [Option.bind_some] at h ⊢
  have hlt : 1 < w.heap.size := by
    rcases Nat.lt_or_ge 1 w.heap.size with h' | h'
    · exact h'
    · rw [Array.getElem?_eq_none h'] at h; cases h
  rw [hb.block _ hlt]
  exact h
theorem itoa_any (n : Int) (w : World) (h : I64 n) (hT : Tab w) : Calls Tryz.prog 46 #[.int .i64 n] w fun e w' => e = .returned (.string (bs (Lib.itoa n))) ∧ Below w.heap.size w w' := by
  refine (Tryz.strconv_Itoa n h.1 h.2 w hT).mono fun e w' ⟨he, k, os, hw⟩ => ⟨he, ?_⟩
  subst hw
  exact Lib.below_grow _ _ (Nat.le_refl _) _ _
theorem add_bs (x y : Bytes) (h : x.length + y.length ≤ 1000000000) (W : World) : (binOp .add 9 (.string (bs x)) (.string (bs y))).run Tryz.prog W = .ok (.string (bs (x ++ y))) W := by
  simp only [binOp]
  rw [run_string_add_sum W (bs x) (bs y) (by rw [bs_size, bs_size]; omega)]
  rw [bs, bs, ByteArray.mk_append_mk]; rfl
theorem join_eq (l : List Bytes) : Lib.join l [44] = joinR l := by
  have key : ∀ (x : Bytes) (r : List Bytes), Lib.join (x :: r) [44] = joinR (x :: r) := by
    intro x r
    induction r generalizing x with
    | nil => exact Lib.join_one x [44]
    | cons y r ih =>
      have h := ih y
      rw [Lib.join_cons] at h ⊢
      show x ++ Lib.joinTail [44] (y :: r) = x ++ 44 :: joinR (y :: r)
      rw [← h]
      rfl
  cases l with
  | nil => rfl
  | cons x r => exact key x r
theorem cut_prefix (d : UInt8) (p : Bytes) : (Lib.trimPrefix p [d], Lib.hasPrefix p [d]) = cutR d p := by
  cases p with
  | nil => rfl
  | cons c r =>
    unfold Lib.trimPrefix Lib.hasPrefix
    show (if ([d].isPrefixOf (c :: r)) = true then _ else _, _) = (if c = d then (r, true) else (c :: r, false))
    by_cases h : c = d
    · subst h; simp [List.isPrefixOf]
    · have h' : (d == c) = false := by rw [beq_eq_false_iff_ne]; exact fun e => h e.symm
      simp [List.isPrefixOf, h', h]
theorem cut_any (d : UInt8) (p : Bytes) (w : World) : Calls Tryz.prog 69 #[.string (bs p), .string ⟨#[d]⟩] w fun e w' => e = .returned (.tuple #[.string (bs (cutR d p).1), .bool (cutR d p).2]) ∧ w' = w := by
  refine (Tryz.strings_CutPrefix (bs p) ⟨#[d]⟩ w).mono fun e w' ⟨he, hw⟩ => ⟨?_, hw⟩
  rw [he, ← cut_prefix]
  rfl
end Go.Proofs.YtbbaaaomncegiaaGreatDoor
