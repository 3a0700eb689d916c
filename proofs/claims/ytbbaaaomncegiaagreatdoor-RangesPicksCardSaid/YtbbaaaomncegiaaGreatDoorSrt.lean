/-
  slices.SortFunc at spans, by where they begin: the row holds the same spans, rising; nothing else that was there turns.
-/
import Derived.Test.YtbbaaaomncegiaaGreatDoorShelf
import Derived.Test.YtbbaaaomncegiaaGreatDoorSrk
import Derived.Test.YtbbaaaomncegiaaGreatDoorDelc
namespace Go.Proofs.YtbbaaaomncegiaaGreatDoor
open Go.RowKit Go.Proofs.Spn Go.Sort

def cmpI (a b : Int) : Int := if a < b then -1 else if b < a then 1 else 0
def encS (x : Sp) : List Value := [.int .i64 x.1, .int .i64 x.2]
theorem encS_len (x : Sp) : (encS x).length = 2 := rfl

set_option maxHeartbeats 1000000 in
theorem compare_any (a b : Int) (w : World) : Calls Tryz.prog 52 #[.int .i64 a, .int .i64 b] w fun e w' => e = .returned (.int .i64 (cmpI a b)) ∧ w = w' := by
  rcases Int.lt_trichotomy a b with h | h | h
  · have E := Lib.hid (show cmpI a b = -1 by unfold cmpI; rw [if_pos h])
    go_enter Tryz.func52, Tryz.ntmps52
    go_wp2
    go_ret
    exact ⟨by rw [E.out]; rfl, rfl⟩
  · subst h
    have E := Lib.hid (show cmpI a a = 0 by unfold cmpI; simp)
    go_enter Tryz.func52, Tryz.ntmps52
    go_wp2
    go_ret
    exact ⟨by rw [E.out]; rfl, rfl⟩
  · have E := Lib.hid (show cmpI a b = 1 by unfold cmpI; rw [if_neg (by omega), if_pos h])
    have h2 : ¬ a < b := by omega
    go_enter Tryz.func52, Tryz.ntmps52
    go_wp2
    go_ret
    exact ⟨by rw [E.out]; rfl, rfl⟩

/-- What is asked of a function value that orders spans by where they begin. -/
def ByA (g : Nat) : Prop := ∀ (x1 x2 y1 y2 : Int) (W : World), Calls Tryz.prog g #[.agg #[.int .i64 x1, .int .i64 x2], .agg #[.int .i64 y1, .int .i64 y2]] W fun e w' => e = .returned (.int .i64 (cmpI x1 y1)) ∧ ∃ q os', w' = grow (W.drewN q) os'
set_option maxHeartbeats 1000000 in
theorem byA_joined : ByA 51 := by
  intro x1 x2 y1 y2 W
  have hc := fun w => compare_any x1 y1 w
  generalize cmpI x1 y1 = r at hc ⊢
  go_enter Tryz.func51, Tryz.ntmps51
  go_wp2_with (go_at_call 52; refine (hc _).mono ?_; rintro e w' ⟨rfl, rfl⟩)
  go_ret
  exact ⟨rfl, 0, _, by rw [alloc_eq_grow, alloc_eq_grow, grow_grow]; rfl⟩
set_option maxHeartbeats 1000000 in
theorem byA_less (x1 x2 y1 y2 : Int) (W : World) : Calls Tryz.prog 66 #[.agg #[.int .i64 x1, .int .i64 x2], .agg #[.int .i64 y1, .int .i64 y2]] W fun e w' => e = .returned (.int .i64 (cmpI x1 y1)) ∧ ∃ q os', w' = grow (W.drewN q) os' := by
  have hc := fun w => compare_any x1 y1 w
  generalize cmpI x1 y1 = r at hc ⊢
  go_enter Tryz.func66, Tryz.ntmps66
  go_wp2_with (go_at_call 52; refine (hc _).mono ?_; rintro e w' ⟨rfl, rfl⟩)
  go_ret
  exact ⟨rfl, 0, _, by rw [alloc_eq_grow, alloc_eq_grow, grow_grow]; rfl⟩

theorem ltA (x y : Sp) : ltOf (fun x y : Sp => cmpI x.1 y.1) x y = decide (x.1 < y.1) := by
  unfold ltOf cmpI
  by_cases h1 : x.1 < y.1
  · simp [h1]
  · by_cases h2 : y.1 < x.1 <;> simp [h1, h2]
theorem swoA : SWO (ltOf fun x y : Sp => cmpI x.1 y.1) where
  irrefl x := by rw [ltA]; simp
  trans x y z h1 h2 := by rw [ltA] at *; simp at *; omega
  ntrans x y z h1 h2 := by rw [ltA] at *; simp at *; omega

theorem holds2_L {w : World} {blk off : Nat} {d : List Sp} : Holds2 w blk off d ↔ HoldsL encS 2 w blk off d := by
  constructor
  · intro h i x c v hx hv
    obtain ⟨a, b, e, f⟩ := h i x hx
    match c, hv with
    | 0, hv => simp [encS] at hv; subst hv; exact ⟨a, e⟩
    | 1, hv => simp [encS] at hv; subst hv; exact ⟨b, f⟩
    | c + 2, hv => simp [encS] at hv
  · intro h i x hx
    have a := h i x 0 _ hx rfl
    have b := h i x 1 _ hx rfl
    exact ⟨a.1, b.1, a.2, b.2⟩

theorem rising_of : ∀ (l : List Sp), (l.Pairwise fun a b => ltOf (fun x y : Sp => cmpI x.1 y.1) b a = false) → Rising l := by
  intro l h
  induction h with
  | nil => trivial
  | @cons a l h1 _ ih =>
    cases l with
    | nil => trivial
    | cons b r =>
      have := h1 b (List.mem_cons_self ..)
      rw [ltA] at this
      simp at this
      exact ⟨by omega, ih⟩

theorem sort_any (g : Nat) (eg : ∀ args w, (callFunc g args).run Tryz.prog w = .ok (.enter g args) w) (hg : ByA g) (blk off cap : Nat) (xs : List Sp) (w : World) (hH : Holds2 w blk off xs) (hblk : blk < w.heap.size) (hsz : xs.length < 4611686018427387904) :
    Calls Tryz.prog 50 #[.slice (some ⟨blk, off, none⟩) xs.length cap, .func (.func g) #[] #[]] w fun e w' =>
      e = .returned (.tuple #[]) ∧ ∃ d : List Sp, d.Perm xs ∧ Rising d ∧ Holds2 w' blk off d ∧ w.grownBy w' (some blk) := by
  have hcmp : CmpLays Tryz.prog g #[] encS 2 (fun x y => cmpI x.1 y.1) blk off xs.toArray.size w := fun _ _ _ _ x y => hg x.1 x.2 y.1 y.2 _
  have hK := holdsK_of encS_len (holds2_L.1 hH)
  have hcon := AnyQ.slices_SortFunc Tryz.sortSp 2 Tryz.isAgg24 Tryz.sizeOf24 encS encS_len (fun x v hv => by simp [encS] at hv; rcases hv with rfl | rfl <;> rfl) (fun x y => cmpI x.1 y.1) swoA g #[] blk off cap xs.toArray w eg hcmp hK hblk (by simpa using hsz)
  change Calls Tryz.prog 50 _ _ _ at hcon
  rw [show xs.toArray.size = xs.length by simp] at hcon
  refine hcon.mono ?_
  rintro e w' ⟨rfl, d, n, os, hp, hs, rfl⟩
  refine ⟨rfl, d.toList, ?_, ?_, ?_, grownBy_sortWorldK _ _ _ _ _ _ _ _⟩
  · have := perm_of_permIn (d := xs.toArray) (by simpa using hp)
    simpa using this
  · refine rising_of _ (pairwise_of_sortedIn ?_)
    have : d.size = xs.length := by have := hp.1; simpa using this
    rw [this]; exact hs
  · exact holds2_L.2 (of_holdsK encS_len (holdsK_sortWorldK_c encS 2 w blk off xs.toArray d n os hK hblk hp.1))

/-- At no element, whatever the address. -/
theorem cmpI_self (a : Int) : cmpI a a = 0 := by unfold cmpI; simp

end Go.Proofs.YtbbaaaomncegiaaGreatDoor
