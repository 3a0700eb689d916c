/-
  The rows of the table of types that the walks ask for.
-/
import Derived.Test.YtloecpgfohhmlaaDoorGen
import Derived.Test.YtloecpgfohhmlaaDoorPnm
namespace Go.Proofs.YtloecpgfohhmlaaDoor
open Go.RowKit Go.Proofs.Prn

theorem Tryd.infoInt : (Tryd.prog.info? 3).map (fun i => (i.zero, i.size, i.bytes)) = some (some (.int .i64 0), 1, 8) := by kernel_rfl
theorem Tryd.infoByte : (Tryd.prog.info? 5).map (fun i => (i.zero, i.size, i.bytes)) = some (some (.int .u8 0), 1, 1) := by kernel_rfl
theorem Tryd.infoStr : (Tryd.prog.info? 9).map (fun i => (i.zero, i.size, i.bytes)) = some (some (.string ByteArray.empty), 1, 16) := by kernel_rfl
theorem Tryd.infoFrag : (Tryd.prog.info? 39).map (fun i => (i.zero, i.size, i.bytes)) = some (some (.agg #[.int .i64 0, .int .i64 0, .int .i64 0, .int .i64 0, .int .i64 0, .int .i64 0, .int .i64 0]), 7, 56) := by kernel_rfl
theorem Tryd.infoPage : (Tryd.prog.info? 37).map (fun i => (i.zero, i.size, i.bytes)) = some (some (.agg #[.int .i64 0, .int .i64 0, .slice none 0 0, .slice none 0 0, .slice none 0 0]), 5, 88) := by kernel_rfl

/-- Bytes as a string's. -/
def bs (l : Bytes) : ByteArray := ⟨l.toArray⟩
theorem bs_list (l : Bytes) : (bs l).data.toList = l := rfl
theorem bs_size (l : Bytes) : (bs l).size = l.length := by
  show l.toArray.size = _
  simp
theorem bs_self (s : ByteArray) : bs s.data.toList = s := by
  cases s; rfl
theorem size_list (s : ByteArray) : s.data.toList.length = s.size := by
  rw [Array.length_toList]; rfl
theorem get_list (s : ByteArray) (k : Nat) (h : k < s.size) : s.data.toList[k]'(by rw [size_list]; exact h) = s[k]'h := by
  rw [Array.getElem_toList]; rfl
theorem ret_val {v v' : Value} (h : v = v') : Ending.returned v = .returned v' := by rw [h]

theorem str_empty (s : ByteArray) (h : s.size = 0) : s.toList = [] ∧ s.toList.isEmpty = true := by
  have e : s.toList = [] := by rw [ByteArray.toList_eq]; exact List.eq_nil_of_length_eq_zero (by rw [size_list]; exact h)
  exact ⟨e, by rw [e]; rfl⟩
theorem str_some (s : ByteArray) (h : 0 < s.size) : ¬ s.toList = [] ∧ s.toList.isEmpty = false := by
  have e : ¬ s.toList = [] := by
    rw [ByteArray.toList_eq]
    intro e
    have := congrArg List.length e
    rw [size_list, List.length_nil] at this
    omega
  exact ⟨e, by cases hl : s.toList with
    | nil => exact absurd hl e
    | cons a r => rfl⟩
theorem head_get (s : ByteArray) (h : 0 < s.size) : s.data.toList.head? = some (s[0]'h) := by
  rw [← get_list s 0 h, List.head?_eq_getElem?]
  exact List.getElem?_eq_getElem _

def encF (f : Frag) : List Value := [.int .i64 f.node, .int .i64 f.atom, .int .i64 f.frm, .int .i64 f.x, .int .i64 f.y, .int .i64 f.w, .int .i64 f.h]
theorem encF_len (f : Frag) : (encF f).length = 7 := rfl
def encI (n : Int) : List Value := [.int .i64 n]
theorem encI_len (n : Int) : (encI n).length = 1 := rfl
def encS (s : ByteArray) : List Value := [.string s]
theorem encS_len (s : ByteArray) : (encS s).length = 1 := rfl
end Go.Proofs.YtloecpgfohhmlaaDoor
