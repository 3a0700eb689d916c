/-
  slices.IndexFunc, ContainsFunc over sheets.Read's closure: whether a row of slots has one that is not among those that were put in; the pages are written behind.
-/
import Derived.Test.YthiplocjiamahaaShn
namespace Go.Proofs.Ythiplocjiamahaa
open Go.RowKit Go.Proofs.Shs Go.Maps

/-- What lies about while the closure is called. -/
structure Lies (l : List Slot) (D : DataW Unit) (nn N mb og g9 g13 : Nat) (w : World) (vals : List Int) : Prop where
  h9 : Blk w g9 54 #[.map (some mb)]
  h13 : Blk w g13 31 #[.slice (some ⟨og, 0, none⟩) N N]
  hm : MapIs w mb nn D
  ho : Blk w og 3 (ints vals)
  hl : vals.length = N
theorem Lies.next {l : List Slot} {D : DataW Unit} {nn N mb og g9 g13 : Nat} {w w' : World} {vals vals' : List Int} (h : Lies l D nn N mb og g9 g13 w vals) (n9 : g9 ≠ og) (n13 : g13 ≠ og) (nm : mb ≠ og) (hg : w.grownBy w' (some og)) (ho : Blk w' og 3 (ints vals')) (hl : vals'.length = vals.length) : Lies l D nn N mb og g9 g13 w' vals' :=
  ⟨h.h9.grown hg (by simp [n9]), h.h13.grown hg (by simp [n13]), h.hm.kept' hg nm, ho, hl.trans h.hl⟩

theorem written_next {L : List Slot} {k : Nat} {x : Slot} {vals : List Int} (hx : L[k]? = some x) (hxn : x.page < (vals.length : Int)) (h : ∀ y, y ∈ L.take k → 0 ≤ y.page → vals[y.page.toNat]? = some y.page) :
    ∀ y, y ∈ L.take (k + 1) → 0 ≤ y.page → (if 0 ≤ x.page then vals.set x.page.toNat x.page else vals)[y.page.toNat]? = some y.page := by
  intro y hy h0
  rw [take_snoc L k x hx] at hy
  by_cases hp : 0 ≤ x.page
  · rw [if_pos hp]
    by_cases e : x.page.toNat = y.page.toNat
    · rw [e, List.getElem?_set_self (by omega)]
      congr 1; omega
    · rw [List.getElem?_set_ne e]
      rcases List.mem_append.1 hy with hy | hy
      · exact h y hy h0
      · simp at hy; subst hy; exact absurd rfl e
  · rw [if_neg hp]
    rcases List.mem_append.1 hy with hy | hy
    · exact h y hy h0
    · simp at hy; subst hy; exact absurd h0 hp

set_option maxHeartbeats 4000000 in
theorem index_tell (l L : List Slot) (D : DataW Unit) (nn N mb og g9 g13 : Nat) (A : Option Addr) (cp : Nat) (vals : List Int) (w : World) (hi : MapInv l D) (hn : (l.map pl).Nodup) (hwf : ∀ x, x ∈ L → wf4 (pl x) ∧ x.page < (N : Int))
    (n9 : g9 ≠ og) (n13 : g13 ≠ og) (nm : mb ≠ og) (hA : RowAt encSl 5 w A L) (hnA : ∀ a, A = some a → L = [] ∨ a.block ≠ og) (h : Lies l D nn N mb og g9 g13 w vals) (hN : N ≤ 1000000) (hL : L.length ≤ 1000511) :
    Calls Try.prog 39 #[.slice A L.length cp, .func (.func 31) #[] #[.pointer (some ⟨g9, 0, none⟩), .pointer (some ⟨g13, 0, none⟩)]] w fun e w' =>
      ∃ vals' : List Int, Lies l D nn N mb og g9 g13 w' vals' ∧ w.grownBy w' (some og) ∧ ((e = .returned (.int .i64 (-1)) ∧ (∀ x, x ∈ L → x ∈ l) ∧ ∀ y, y ∈ L → 0 ≤ y.page → vals'[y.page.toNat]? = some y.page) ∨ (∃ k : Nat, e = .returned (.int .i64 k)) ∧ ∃ x, x ∈ L ∧ x ∉ l) := by
  have HA := Lib.hid hA
  have HLI := Lib.hid h
  have HI := Lib.hid hi
  have HN := Lib.hid hn
  have HW := Lib.hid hwf
  have HNA := Lib.hid hnA
  clear hA h hi hn hwf hnA
  go_enter Try.func39, Try.ntmps39
  go_wp2_with fail
  go_loopw [8] (fun i wr => ∃ (k : Nat) (vs : List Int), k ≤ L.length ∧ i = .int .i64 k ∧ Hid (Lies l D nn N mb og g9 g13 wr vs) ∧ Hid (w.grownBy wr (some og)) ∧ Hid (∀ x, x ∈ L.take k → x ∈ l) ∧ Hid (∀ y, y ∈ L.take k → 0 ≤ y.page → vs[y.page.toNat]? = some y.page)) (fun i _ => L.length - (intOf i).toNat)
  case atStart => exact ⟨0, vals, Nat.zero_le _, rfl, HLI.out, gb_refl _ _, fun x hx => by simp at hx, fun y hy => by simp at hy⟩
  case round =>
    obtain ⟨k, vs, hk, rfl, HS, HG, HM, HP⟩ := hrel
    by_cases hlt : k < L.length
    · have hlt' : (k : Int) < (L.length : Int) := by omega
      obtain ⟨x, hx⟩ : ∃ x, L[k]? = some x := ⟨_, List.getElem?_eq_getElem hlt⟩
      have hxm : x ∈ L := List.mem_iff_getElem?.2 ⟨k, hx⟩
      obtain ⟨hw4, hpn⟩ := HW.out x hxm
      have hvl := HS.out.hl
      have ht := fun W (h9 : Blk W g9 _ _) (h13 : Blk W g13 _ _) (hm : MapIs W mb nn D) (ho : Blk W og _ (ints vs)) => tell_any l D nn vs mb og g9 g13 x W HI.out HN.out hw4 h9 h13 hm ho (by rw [hvl]; exact hpn) (by omega)
      have hwr := written_next hx (by rw [hvl]; exact hpn) HP.out
      have HWR := Lib.hid hwr
      have HX := Lib.hid hx
      have HXM := Lib.hid hxm
      have HT := Lib.hid ht
      have HVL := Lib.hid hvl
      obtain ⟨x0, x1, x2, x3, x4⟩ := x
      obtain ⟨b, off, rfl, hblt, c0, c1, c2, c3, c4⟩ := (HA.out.grown HG.out (fun a e => by
        rcases HNA.out a e with h | h
        · rw [h] at hx; simp at hx
        · simpa using h)).slot hx
      clear hx hxm hw4 hpn hvl ht hwr
      go_wp2_with fail
      refine (HT.out _ HS.out.h9 (by have := HS.out.h13; rw [← HVL.out] at this; exact this) HS.out.hm HS.out.ho).mono ?_
      rintro e w2 ⟨rfl, vs', ho', hl', hset, hg'⟩
      have HS2 := Lib.hid (HS.out.next n9 n13 nm hg' ho' hl')
      have HG2 := Lib.hid (gb_trans HG.out hg')
      have HSET := Lib.hid hset
      clear ho' hl' hset hg' c0 c1 c2 c3 c4
      by_cases hml : (⟨x0, x1, x2, x3, x4⟩ : Slot) ∈ l
      · have HM2 : Hid (∀ x, x ∈ L.take (k + 1) → x ∈ l) := fun x hx => by
          rw [take_snoc L k _ HX.out] at hx
          rcases List.mem_append.1 hx with hx | hx
          · exact HM.out x hx
          · simp at hx; subst hx; exact hml
        have HP2 : Hid (∀ y, y ∈ L.take (k + 1) → 0 ≤ y.page → vs'[y.page.toNat]? = some y.page) := by rw [HSET.out hml]; exact HWR.out
        rw [show decide ((⟨x0, x1, x2, x3, x4⟩ : Slot) ∈ l) = true by simpa using hml]
        clear hml
        go_wp2_with fail
        go_roundw
        case rel => exact ⟨k + 1, vs', by omega, by go_num, HS2.out, HG2.out, HM2.out, HP2.out⟩
        case measure => simp [intOf]; omega
      · have HML := Lib.hid hml
        rw [show decide ((⟨x0, x1, x2, x3, x4⟩ : Slot) ∈ l) = false by simpa using hml]
        clear hml
        go_wp2_with fail
        go_ret
        exact ⟨vs', HS2.out, HG2.out, .inr ⟨⟨k, rfl⟩, _, HXM.out, HML.out⟩⟩
    · have e : k = L.length := by omega
      have HK := Lib.hid e
      have hlt' : ¬ (k : Int) < (L.length : Int) := by omega
      clear e
      go_wp2_with fail
      go_ret
      refine ⟨vs, HS.out, HG.out, .inl ⟨rfl, ?_, ?_⟩⟩
      · have := HM.out; rw [HK.out, List.take_length] at this; exact this
      · have := HP.out; rw [HK.out, List.take_length] at this; exact this

set_option maxHeartbeats 1000000 in
theorem contains_tell (l L : List Slot) (D : DataW Unit) (nn N mb og g9 g13 : Nat) (A : Option Addr) (cp : Nat) (vals : List Int) (w : World) (hi : MapInv l D) (hn : (l.map pl).Nodup) (hwf : ∀ x, x ∈ L → wf4 (pl x) ∧ x.page < (N : Int))
    (n9 : g9 ≠ og) (n13 : g13 ≠ og) (nm : mb ≠ og) (hA : RowAt encSl 5 w A L) (hnA : ∀ a, A = some a → L = [] ∨ a.block ≠ og) (h : Lies l D nn N mb og g9 g13 w vals) (hN : N ≤ 1000000) (hL : L.length ≤ 1000511) :
    Calls Try.prog 30 #[.slice A L.length cp, .func (.func 31) #[] #[.pointer (some ⟨g9, 0, none⟩), .pointer (some ⟨g13, 0, none⟩)]] w fun e w' =>
      ∃ vals' : List Int, Lies l D nn N mb og g9 g13 w' vals' ∧ w.grownBy w' (some og) ∧ ((e = .returned (.bool false) ∧ (∀ x, x ∈ L → x ∈ l) ∧ ∀ y, y ∈ L → 0 ≤ y.page → vals'[y.page.toNat]? = some y.page) ∨ e = .returned (.bool true) ∧ ∃ x, x ∈ L ∧ x ∉ l) := by
  have hc := index_tell l L D nn N mb og g9 g13 A cp vals w hi hn hwf n9 n13 nm hA hnA h hN hL
  have HC := Lib.hid hc
  clear hc hi hn hwf hA hnA h
  go_enter Try.func30, Try.ntmps30
  go_wp2_with fail
  refine HC.out.mono ?_
  rintro e w2 ⟨vs, hl, hg, ⟨rfl, h1, h2⟩ | ⟨⟨k, rfl⟩, h1⟩⟩
  · have HL := Lib.hid hl
    have HG := Lib.hid hg
    have H1 := Lib.hid h1
    have H2 := Lib.hid h2
    clear hl hg h1 h2
    go_wp2_with fail
    go_ret
    exact ⟨vs, HL.out, HG.out, .inl ⟨rfl, H1.out, H2.out⟩⟩
  · have HL := Lib.hid hl
    have HG := Lib.hid hg
    have H1 := Lib.hid h1
    clear hl hg h1
    go_wp2_with fail
    go_ret
    exact ⟨vs, HL.out, HG.out, .inr ⟨ret_bool (by simp), H1.out⟩⟩
end Go.Proofs.Ythiplocjiamahaa
