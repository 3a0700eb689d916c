/-
  slices.SortFunc at spans, by where they begin: the row holds the same spans, rising; nothing else that was there turns.
-/
import Derived.Test.YtodocdcnealijaaShelf
import Derived.Test.YtodocdcnealijaaSrk
import Derived.Test.YtodocdcnealijaaDelc
namespace Go.Proofs.Ytodocdcnealijaa
open Go.RowKit Go.Proofs.Spn Go.Sort

def cmpI (a b : Int) : Int := if a < b then -1 else if b < a then 1 else 0
def encS (x : Sp) : List Value := [.int .i64 x.1, .int .i64 x.2]
theorem encS_len (x : Sp) : (encS x).length = 2 := rfl

set_option maxHeartbeats 1000000 in
theorem compare_any (a b : Int) (w : World) : Calls Try.prog 29 #[.int .i64 a, .int .i64 b] w fun e w' => e = .returned (.int .i64 (cmpI a b)) ∧ w = w' := by
  rcases Int.lt_trichotomy a b with h | h | h
  · have E := Lib.hid (show cmpI a b = -1 by unfold cmpI; rw [if_pos h])
    go_enter Try.func29, Try.ntmps29
    go_wp2
    go_ret
    exact ⟨by rw [E.out]; rfl, rfl⟩
  · subst h
    have E := Lib.hid (show cmpI a a = 0 by unfold cmpI; simp)
    go_enter Try.func29, Try.ntmps29
    go_wp2
    go_ret
    exact ⟨by rw [E.out]; rfl, rfl⟩
  · have E := Lib.hid (show cmpI a b = 1 by unfold cmpI; rw [if_neg (by omega), if_pos h])
    have h2 : ¬ a < b := by omega
    go_enter Try.func29, Try.ntmps29
    go_wp2
    go_ret
    exact ⟨by rw [E.out]; rfl, rfl⟩

set_option maxHeartbeats 1000000 in
theorem byA_any (x1 x2 y1 y2 : Int) (W : World) : Calls Try.prog 28 #[.agg #[.int .i64 x1, .int .i64 x2], .agg #[.int .i64 y1, .int .i64 y2]] W fun e w' => e = .returned (.int .i64 (cmpI x1 y1)) ∧ ∃ q os', w' = grow (W.drewN q) os' := by
  have hc := fun w => compare_any x1 y1 w
  generalize cmpI x1 y1 = r at hc ⊢
  go_enter Try.func28, Try.ntmps28
  go_wp2_with (go_at_call 29; refine (hc _).mono ?_; rintro e w' ⟨rfl, rfl⟩)
  go_ret
  exact ⟨rfl, 0, _, by rw [alloc_eq_grow, alloc_eq_grow, grow_grow]; rfl⟩

theorem ltA (x y : Sp) : ltOf (fun x y : Sp => cmpI x.1 y.1) x y = decide (x.1 < y.1) := by
  unfold ltOf cmpI
  by_cases h1 : x.1 < y.1
  · simp [h1]
  · by_cases h2 : y.1 < x.1 <;> simp [h1, h2]
theorem swoA : SWO (ltOf fun x y : Sp => cmpI x.1 y.1) where
  irrefl x := by rw [ltA]; simp
  trans x y z h1 h2 := by rw [ltA] at *; simp at *; omega
  ntrans x y z h1 h2 := by rw [ltA] at *; simp at *; omega

theorem holds2_L {w : World} {blk off : Nat} {d : List Sp} : Holds2 w blk off d ↔ HoldsL encS 2 w blk off d := by
  constructor
  · intro h i x c v hx hv
    obtain ⟨a, b, e, f⟩ := h i x hx
    match c, hv with
    | 0, hv => simp [encS] at hv; subst hv; exact ⟨a, e⟩
    | 1, hv => simp [encS] at hv; subst hv; exact ⟨b, f⟩
    | c + 2, hv => simp [encS] at hv
  · intro h i x hx
    have a := h i x 0 _ hx rfl
    have b := h i x 1 _ hx rfl
    exact ⟨a.1, b.1, a.2, b.2⟩

theorem rising_of : ∀ (l : List Sp), (l.Pairwise fun a b => ltOf (fun x y : Sp => cmpI x.1 y.1) b a = false) → Rising l := by
  intro l h
  induction h with
  | nil => trivial
  | @cons a l h1 _ ih =>
    cases l with
    | nil => trivial
    | cons b r =>
      have := h1 b (List.mem_cons_self ..)
      rw [ltA] at this
      simp at this
      exact ⟨by omega, ih⟩

theorem sort_any (blk off cap : Nat) (xs : List Sp) (w : World) (hH : Holds2 w blk off xs) (hblk : blk < w.heap.size) (hsz : xs.length < 4611686018427387904) :
    Calls Try.prog 27 #[.slice (some ⟨blk, off, none⟩) xs.length cap, .func (.func 28) #[] #[]] w fun e w' =>
      e = .returned (.tuple #[]) ∧ ∃ d : List Sp, d.Perm xs ∧ Rising d ∧ Holds2 w' blk off d ∧ w.grownBy w' (some blk) := by
  have eg : ∀ args w, (callFunc 28 args).run Try.prog w = .ok (.enter 28 args) w := enters_of Try.func28 (by kernel_rfl) rfl
  have hcmp : CmpLays Try.prog 28 #[] encS 2 (fun x y => cmpI x.1 y.1) blk off xs.toArray.size w := fun _ _ _ _ x y => byA_any x.1 x.2 y.1 y.2 _
  have hK := holdsK_of encS_len (holds2_L.1 hH)
  have hcon := AnyQ.slices_SortFunc Try.sortSp 2 Try.isAgg23 Try.sizeOf23 encS encS_len (fun x v hv => by simp [encS] at hv; rcases hv with rfl | rfl <;> rfl) (fun x y => cmpI x.1 y.1) swoA 28 #[] blk off cap xs.toArray w eg hcmp hK hblk (by simpa using hsz)
  change Calls Try.prog 27 _ _ _ at hcon
  rw [show xs.toArray.size = xs.length by simp] at hcon
  refine hcon.mono ?_
  rintro e w' ⟨rfl, d, n, os, hp, hs, rfl⟩
  refine ⟨rfl, d.toList, ?_, ?_, ?_, grownBy_sortWorldK _ _ _ _ _ _ _ _⟩
  · have := perm_of_permIn (d := xs.toArray) (by simpa using hp)
    simpa using this
  · refine rising_of _ (pairwise_of_sortedIn ?_)
    have : d.size = xs.length := by have := hp.1; simpa using this
    rw [this]; exact hs
  · exact holds2_L.2 (of_holdsK encS_len (holdsK_sortWorldK_c encS 2 w blk off xs.toArray d n os hK hblk hp.1))

/-- At no element, whatever the address. -/
theorem cmpI_self (a : Int) : cmpI a a = 0 := by unfold cmpI; simp

end Go.Proofs.Ytodocdcnealijaa
