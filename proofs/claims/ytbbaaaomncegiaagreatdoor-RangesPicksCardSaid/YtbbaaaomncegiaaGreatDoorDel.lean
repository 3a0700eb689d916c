/-
  slices.Clone, slices.IndexFunc and slices.DeleteFunc at spans: a copy in memory of the call's own; the first one that a function value tells; the row without those that it tells, in place.
-/
import Derived.Test.YtbbaaaomncegiaaGreatDoorHul
import Derived.Shelf.Abstract
import Derived.Lib.SliceRun
namespace Go.Proofs.YtbbaaaomncegiaaGreatDoor
open Go.RowKit Go.Proofs.Spn

theorem Tryz.infoSpan : (Tryz.prog.info? 24).map (fun i => (i.zero, i.size, i.bytes)) = some (some (.agg #[.int .i64 0, .int .i64 0]), 2, 16) := by kernel_rfl

theorem Spans.add {w : World} {a : Addr} {xs : List Sp} (h : Spans w (some a) xs) : ∀ j u, (flatS xs)[j]? = some u → w.cell? (a.add j) = some u := by
  intro j u hj
  have hl : j < xs.length * 2 := by have := (List.getElem?_eq_some_iff.1 hj).1; rw [flatS_length] at this; exact this
  have hx : xs[j / 2]? = some xs[j / 2] := List.getElem?_eq_getElem (by omega)
  obtain ⟨f1, f2⟩ := flatS_one xs _ _ hx
  obtain ⟨b, off, e, _, c1, c2⟩ := h _ _ hx
  cases e
  rw [Addr.add_lit]
  rcases Nat.mod_two_eq_zero_or_one j with g | g
  · have e : j / 2 * 2 = j := by omega
    rw [e] at f1 c1
    rw [f1] at hj; cases hj; exact c1
  · have e : j / 2 * 2 + 1 = j := by omega
    rw [e] at f2
    rw [Nat.add_assoc, e] at c2
    rw [f2] at hj; cases hj; exact c2

set_option maxHeartbeats 2000000 in
theorem clone_any (A : Option Addr) (c : Nat) (xs : List Sp) (w : World) (hA : Spans w A xs) (hn : xs.length * 16 ≤ 140737488355328) :
    Calls Tryz.prog 26 #[.slice A xs.length c] w fun e w' => ∃ v', e = .returned v' ∧ w'.ownsRow w.heap.size 24 2 v' xs.length (flatS xs) ∧ Below w.heap.size w w' := by
  obtain ⟨i0, hi, hz0, hz1, hz2⟩ := info_parts Tryz.infoSpan
  cases A with
  | none =>
    have e : xs = [] := by
      cases xs with
      | nil => rfl
      | cons s r => obtain ⟨_, _, h, _⟩ := hA 0 s rfl; cases h
    subst e
    have q := fun (w : World) (n c : Nat) => Lib.run_eql_slice_nil (P := Tryz.prog) w 22 24 none n c 0 0 Tryz.underlying22
    go_enter Tryz.func26, Tryz.ntmps26
    go_wp2
    go_ret
    exact ⟨_, rfl, World.ownsRow_nil _ _ _ _, Below.refl _ _⟩
  | some a =>
    have q := fun (w : World) (n c : Nat) => Lib.run_eql_slice_nil (P := Tryz.prog) w 22 24 (some a) n c 0 0 Tryz.underlying22
    have HA := Lib.hid hA
    clear hA
    go_enter Tryz.func26, Tryz.ntmps26
    go_wp2_with (at_builtin; refine wpList_append_own _ rfl _ _ 22 rfl w.heap.size 24 i0 (.agg #[.int .i64 0, .int .i64 0]) 2 16 Tryz.underlying22 hi hz0 hz1 hz2 rfl (by decide) _ _ _ rfl (World.ownsRow_made w #[] 0 (Nat.le_refl _) (Nat.zero_le _) (by simp)) a xs.length c (flatS xs) rfl ?qc1 ?qc2 ?qc3 ?qc4 ?qc5 ?qc6 ?_)
    case qc1 => exact flatS_length xs
    case qc2 => exact (HA.out.below (bl (Below.refl _ w) _)).add
    case qc3 => exact flatS_cells xs
    case qc4 => rw [Nat.zero_add]; unfold maxLen; omega
    case qc5 => rw [Nat.zero_add]; exact hn
    case qc6 => simp
    intro v' w1 hown hgrow hnil
    go_wp2
    go_ret
    exact ⟨v', rfl, by simpa using hown, (bl (Below.refl _ w) _).grown hgrow (by simp) (by intro k hk; simp [Value.ownBlock] at hk; omega)⟩

/-- The first place at which p holds, or -1. -/
def idxS (p : Sp → Bool) (l : List Sp) : Int := match l.findIdx? p with | some i => (i : Int) | none => -1
theorem idxS_some {p : Sp → Bool} {l : List Sp} {k : Nat} {x : Sp} (hx : l[k]? = some x) (hp : p x = true) (h : ∀ y, y ∈ l.take k → p y = false) : idxS p l = (k : Int) := by
  have : l.findIdx? p = some k := by
    rw [List.findIdx?_eq_some_iff_getElem]
    obtain ⟨hl, rfl⟩ := List.getElem?_eq_some_iff.1 hx
    refine ⟨hl, hp, fun j hj => ?_⟩
    have hjl : j < l.length := by omega
    have := h l[j] (List.mem_iff_getElem?.2 ⟨j, by rw [List.getElem?_take, if_pos hj]; exact List.getElem?_eq_getElem hjl⟩)
    simp [this]
  unfold idxS; rw [this]
theorem idxS_none {p : Sp → Bool} {l : List Sp} (h : ∀ y, y ∈ l → p y = false) : idxS p l = -1 := by
  have : l.findIdx? p = none := by rw [List.findIdx?_eq_none_iff]; exact h
  unfold idxS; rw [this]
theorem take_snoc_mem {p : Sp → Bool} {l : List Sp} {k : Nat} {x : Sp} (hx : l[k]? = some x) (hp : p x = false) (h : ∀ y, y ∈ l.take k → p y = false) : ∀ y, y ∈ l.take (k + 1) → p y = false := by
  intro y hy
  rw [take_snoc l k x hx] at hy
  rcases List.mem_append.1 hy with hy | hy
  · exact h y hy
  · simp at hy; subst hy; exact hp

/-- What is asked of the function value g: it tells p, and turns nothing. -/
def Tells (g : Nat) (p : Sp → Bool) : Prop := ∀ (x1 x2 : Int) (W : World), Calls Tryz.prog g #[.agg #[.int .i64 x1, .int .i64 x2]] W fun e w' => e = .returned (.bool (p (x1, x2))) ∧ Below W.heap.size W w'

set_option maxHeartbeats 2000000 in
theorem index_any (g : Nat) (p : Sp → Bool) (eg : ∀ args w, (callFunc g args).run Tryz.prog w = .ok (.enter g args) w) (hg : Tells g p) (A : Option Addr) (c : Nat) (xs : List Sp) (w : World) (hA : Spans w A xs) (hn : xs.length ≤ 9223372036854775807) :
    Calls Tryz.prog 55 #[.slice A xs.length c, .func (.func g) #[] #[]] w fun e w' => e = .returned (.int .i64 (idxS p xs)) ∧ Below w.heap.size w w' := by
  have HA := Lib.hid hA
  have HG := Lib.hid hg
  clear hA hg
  go_enter Tryz.func55, Tryz.ntmps55
  go_wp2
  go_loopw [8] (fun i wr => ∃ (k : Nat), k ≤ xs.length ∧ i = .int .i64 k ∧ Below w.heap.size w wr ∧ Hid (∀ y, y ∈ xs.take k → p y = false))
    (fun i _ => xs.length - (intOf i).toNat)
  case atStart => exact ⟨0, Nat.zero_le _, rfl, Below.refl _ _, fun y hy => by simp at hy⟩
  case round =>
    obtain ⟨k, hk, rfl, hnx, HN⟩ := hrel
    by_cases hlt : k < xs.length
    · obtain ⟨⟨x1, x2⟩, hx⟩ : ∃ x, xs[k]? = some x := ⟨_, List.getElem?_eq_getElem hlt⟩
      obtain ⟨b, off, rfl, hb, c1, c2⟩ := HA.out.below hnx k _ hx
      have HX := Lib.hid hx
      clear hx
      simp only at c1 c2
      have hcall := fun W => HG.out x1 x2 W
      cases hq : p (x1, x2) with
      | true =>
        rw [hq] at hcall
        have E := Lib.hid (idxS_some HX.out hq HN.out)
        clear hq
        go_wp2_with (go_at_fn g; refine (hcall _).mono ?_; rintro e w' ⟨rfl, hb'⟩)
        go_ret
        exact ⟨by rw [E.out]; rfl, bt hnx hb'⟩
      | false =>
        rw [hq] at hcall
        have E := Lib.hid (take_snoc_mem HX.out hq HN.out)
        clear hq
        go_wp2_with (go_at_fn g; refine (hcall _).mono ?_; rintro e w' ⟨rfl, hb'⟩)
        go_roundw
        case rel => exact ⟨k + 1, by omega, by go_num, bt hnx hb', E.out⟩
        case measure => simp [intOf]; omega
    · have e : k = xs.length := by omega
      have HK := Lib.hid e
      clear e
      go_wp2
      go_ret
      refine ⟨?_, hnx⟩
      have h := HN.out
      rw [HK.out, List.take_length] at h
      rw [idxS_none h]
      rfl

/-- What is asked of the function value g that has captured one variable: wherever all that lay in w0 lies, it tells p, and turns nothing. -/
def Tells1 (g cb : Nat) (p : Sp → Bool) (w0 : World) : Prop := ∀ (x1 x2 : Int) (W : World), Below w0.heap.size w0 W → Calls Tryz.prog g #[.agg #[.int .i64 x1, .int .i64 x2], .pointer (some ⟨cb, 0, none⟩)] W fun e w' => e = .returned (.bool (p (x1, x2))) ∧ Below W.heap.size W w'

set_option maxHeartbeats 2000000 in
theorem index1_any (g cb : Nat) (p : Sp → Bool) (eg : ∀ args w, (callFunc g args).run Tryz.prog w = .ok (.enter g args) w) (A : Option Addr) (c : Nat) (xs : List Sp) (w : World) (hg : Tells1 g cb p w) (hA : Spans w A xs) (hn : xs.length ≤ 9223372036854775807) :
    Calls Tryz.prog 55 #[.slice A xs.length c, .func (.func g) #[] #[.pointer (some ⟨cb, 0, none⟩)]] w fun e w' => e = .returned (.int .i64 (idxS p xs)) ∧ Below w.heap.size w w' := by
  have HA := Lib.hid hA
  have HG := Lib.hid hg
  clear hA hg
  go_enter Tryz.func55, Tryz.ntmps55
  go_wp2
  go_loopw [8] (fun i wr => ∃ (k : Nat), k ≤ xs.length ∧ i = .int .i64 k ∧ Below w.heap.size w wr ∧ Hid (∀ y, y ∈ xs.take k → p y = false))
    (fun i _ => xs.length - (intOf i).toNat)
  case atStart => exact ⟨0, Nat.zero_le _, rfl, Below.refl _ _, fun y hy => by simp at hy⟩
  case round =>
    obtain ⟨k, hk, rfl, hnx, HN⟩ := hrel
    by_cases hlt : k < xs.length
    · obtain ⟨⟨x1, x2⟩, hx⟩ : ∃ x, xs[k]? = some x := ⟨_, List.getElem?_eq_getElem hlt⟩
      obtain ⟨b, off, rfl, hb, c1, c2⟩ := HA.out.below hnx k _ hx
      have HX := Lib.hid hx
      clear hx
      simp only at c1 c2
      have hcall := HG.out x1 x2 wr hnx
      cases hq : p (x1, x2) with
      | true =>
        rw [hq] at hcall
        have E := Lib.hid (idxS_some HX.out hq HN.out)
        clear hq
        go_wp2_with (go_at_fn g; refine hcall.mono ?_; rintro e w' ⟨rfl, hb'⟩)
        go_ret
        exact ⟨by rw [E.out]; rfl, bt hnx hb'⟩
      | false =>
        rw [hq] at hcall
        have E := Lib.hid (take_snoc_mem HX.out hq HN.out)
        clear hq
        go_wp2_with (go_at_fn g; refine hcall.mono ?_; rintro e w' ⟨rfl, hb'⟩)
        go_roundw
        case rel => exact ⟨k + 1, by omega, by go_num, bt hnx hb', E.out⟩
        case measure => simp [intOf]; omega
    · have e : k = xs.length := by omega
      have HK := Lib.hid e
      clear e
      go_wp2
      go_ret
      refine ⟨?_, hnx⟩
      have h := HN.out
      rw [HK.out, List.take_length] at h
      rw [idxS_none h]
      rfl

end Go.Proofs.YtbbaaaomncegiaaGreatDoor
