/-
  gatefoldref33.Read: of whatever slots how many pages they are, or -1: it agrees with what sheets.Read answers; below the heap's size at the call nothing turns.
-/
import Derived.Test.YthiplocjiamahaaShj
namespace Go.Proofs.Ythiplocjiamahaa
open Go.RowKit Go.Proofs.Shs Go.Maps

/-- How often a slot stands among these. -/
def cntEq (x : Slot) (l : List Slot) : Nat := (l.filter fun y => decide (y = x)).length
theorem cntEq_nil (x : Slot) : cntEq x [] = 0 := rfl
theorem cntEq_cons (x y : Slot) (l : List Slot) : cntEq x (y :: l) = cntEq x l + if y = x then 1 else 0 := by
  unfold cntEq
  by_cases h : y = x <;> simp [h]
theorem cntEq_snoc (x y : Slot) (l : List Slot) (k : Nat) (h : l[k]? = some y) : cntEq x (l.take (k + 1)) = cntEq x (l.take k) + if y = x then 1 else 0 := by
  unfold cntEq
  rw [take_snoc l k y h, List.filter_append, List.length_append]
  by_cases g : y = x <;> simp [g]
theorem cntEq_le (x : Slot) (l : List Slot) (k : Nat) : cntEq x (l.take k) ≤ k := by
  unfold cntEq
  exact Nat.le_trans (List.length_filter_le _ _) (by rw [List.length_take]; omega)
theorem cntEq_none (x : Slot) : ∀ l : List Slot, x ∉ l → cntEq x l = 0
  | [], _ => rfl
  | y :: l, h => by
    rw [cntEq_cons, cntEq_none x l (fun h' => h (List.mem_cons_of_mem _ h')), if_neg (fun e => h (by rw [e]; exact List.mem_cons_self ..))]
theorem cntEq_one (x : Slot) : ∀ l : List Slot, l.Nodup → x ∈ l → cntEq x l = 1
  | [], _, h => by cases h
  | y :: l, hn, h => by
    rw [cntEq_cons]
    rw [List.nodup_cons] at hn
    by_cases e : y = x
    · subst e
      rw [cntEq_none y l hn.1, if_pos rfl]
    · rw [if_neg e, Nat.add_zero]
      rcases List.mem_cons.1 h with h | h
      · exact absurd h.symm e
      · exact cntEq_one x l hn.2 h
theorem cntEq_mem (x : Slot) (l : List Slot) (h : cntEq x l = 1) : x ∈ l := by
  by_cases g : x ∈ l
  · exact g
  · rw [cntEq_none x l g] at h; cases h

theorem perm_of_sub {α : Type} [DecidableEq α] : ∀ (L l : List α), L.Nodup → (∀ x, x ∈ L → x ∈ l) → l.length = L.length → l.Perm L
  | [], l, _, _, h => by rw [List.eq_nil_of_length_eq_zero h]
  | a :: L, l, hn, hs, h => by
    rw [List.nodup_cons] at hn
    have ha : a ∈ l := hs a (List.mem_cons_self ..)
    refine (List.perm_cons_erase ha).trans ((perm_of_sub L (l.erase a) hn.2 (fun x hx => ?_) ?_).cons a)
    · exact (List.mem_erase_of_ne (fun e => hn.1 (by rw [← e]; exact hx))).2 (hs x (List.mem_cons_of_mem _ hx))
    · rw [List.length_erase_of_mem ha, h]; simp

theorem once_iff (p : Plan) (l : List Slot) : ReadOk p l ↔ mayP p = true ∧ (allP p (cntPg l)).length = l.length ∧ ∀ x, x ∈ allP p (cntPg l) → cntEq x l = 1 := by
  constructor
  · rintro ⟨hm, hl, hn, hs⟩
    refine ⟨hm, hl, fun x hx => cntEq_one x l (List.Pairwise.of_map pl (fun a b h e => h (by rw [e])) hn) (hs x hx)⟩
  · rintro ⟨hm, hl, hs⟩
    have pw := pw_all p (cntPg l)
    have hsub := fun x hx => cntEq_mem x l (hs x hx)
    have hp := perm_of_sub _ l (pw.imp (fun {a b} h e => by subst e; exact h.irrefl)) hsub hl.symm
    refine ⟨hm, hl, ?_, hsub⟩
    rw [(hp.map pl).nodup_iff]
    refine List.Pairwise.map pl (fun a b h e => ?_) pw
    simp only [pl, Prod.mk.injEq] at e
    unfold Ahead at h
    omega

set_option maxRecDepth 100000 in
set_option maxHeartbeats 16000000 in
theorem rread_any (kd r c s sh : Int) (A : Option Addr) (cp : Nat) (l : List Slot) (w : World) (hA : RowAt encSl 5 w A l) (hl : l.length ≤ 2000) :
    Calls Try.prog 17 #[.agg #[.int .i64 kd, .int .i64 r, .int .i64 c, .int .i64 s, .int .i64 sh], .slice A l.length cp] w fun e w' => Below w.heap.size w w' ∧ ((ReadOk ⟨kd, r, c, s, sh⟩ l ∧ e = .returned (.int .i64 (cntPg l))) ∨ (¬ ReadOk ⟨kd, r, c, s, sh⟩ l ∧ e = .returned (.int .i64 (-1)))) := by
  have HA := Lib.hid hA
  have co := fun W => rmay_any kd r c s sh W
  have ca := fun W => rall_any kd r c s sh (cntPg l) W
  have hLl := len_all_le ⟨kd, r, c, s, sh⟩ (cntPg l)
  have hrk := once_iff ⟨kd, r, c, s, sh⟩ l
  have hcl := cntPg_le l l.length
  rw [List.take_length] at hcl
  unfold GivesAll at ca
  generalize allP ⟨kd, r, c, s, sh⟩ (cntPg l) = L at ca hLl hrk
  generalize mayP ⟨kd, r, c, s, sh⟩ = b at co hrk
  have CA := Lib.hid ca
  have HRK := Lib.hid hrk
  have CO := Lib.hid co
  clear hA ca hrk co
  go_enter Try.func17, Try.ntmps17
  go_wp2_with fail
  have HP1 := Lib.hid (Blk.new w 23 #[.int .i64 kd, .int .i64 r, .int .i64 c, .int .i64 s, .int .i64 sh])
  have HA1 := Lib.hid (HA.out.below (bl (Below.refl _ _) (.cells #[.int .i64 kd, .int .i64 r, .int .i64 c, .int .i64 s, .int .i64 sh] 23)))
  have HB1 := Lib.hid (bl (Below.refl _ w) (.cells #[.int .i64 kd, .int .i64 r, .int .i64 c, .int .i64 s, .int .i64 sh] 23))
  generalize w.alloc (.cells #[.int .i64 kd, .int .i64 r, .int .i64 c, .int .i64 s, .int .i64 sh] 23) = w1 at HP1 HA1 HB1 ⊢
  clear HA
  go_loopw [5, 6] (fun n i wr => ∃ (k m : Nat), k ≤ l.length ∧ i = .int .i64 k ∧ n = .int .i64 m ∧ m ≤ k ∧ Hid (m = cntPg (l.take k)) ∧ w1 = wr) (fun _ i _ => l.length - (intOf i).toNat)
  case atStart => exact ⟨0, 0, Nat.zero_le _, rfl, rfl, Nat.le_refl _, rfl, rfl⟩
  case round =>
    obtain ⟨k, m, hk, rfl, rfl, hmk, HCM, rfl⟩ := hrel
    by_cases hlt : k < l.length
    · have hlt' : (k : Int) < (l.length : Int) := by omega
      obtain ⟨⟨x0, x1, x2, x3, x4⟩, hx⟩ : ∃ x, l[k]? = some x := ⟨_, List.getElem?_eq_getElem hlt⟩
      have HCN := Lib.hid (cntPg_snoc l k _ hx)
      obtain ⟨b, off, rfl, hblt, c0, c1, c2, c3, c4⟩ := HA1.out.slot hx
      clear hx
      by_cases hp : 0 ≤ x4
      · have HC5 : Hid (m + 1 = cntPg (l.take (k + 1))) := by show _ = _; rw [HCN.out, ← HCM.out]; simp [hp]
        go_wp2_with fail
        go_roundw
        case rel => exact ⟨k + 1, m + 1, by omega, by go_num, by go_num, by omega, HC5.out, by first | rfl | trivial⟩
        case measure => simp [intOf]; omega
      · have HC5 : Hid (m = cntPg (l.take (k + 1))) := by show _ = _; rw [HCN.out, ← HCM.out]; simp [hp]
        go_wp2_with fail
        go_roundw
        case rel => exact ⟨k + 1, m, by omega, by go_num, rfl, by omega, HC5.out, by first | rfl | trivial⟩
        case measure => simp [intOf]; omega
    · have hlt' : ¬ (k : Int) < (l.length : Int) := by omega
      have HCM2 : Hid (cntPg l = m) := by show _ = _; have := HCM.out; rw [show k = l.length by omega, List.take_length] at this; exact this.symm
      have hml : m ≤ 2000 := by omega
      have ca2 := CA.out
      rw [HCM2.out] at ca2
      have CA2 := Lib.hid ca2
      clear ca2
      obtain ⟨p0, p1, p2, p3, p4⟩ := HP1.out.facts5
      go_wp2_with fail
      refine (CA2.out _).mono ?_
      rintro e w2 ⟨A2, cp2, rfl, hl1, hl2, hA2, hb2⟩
      have HP2 := Lib.hid (HP1.out.keep hb2)
      have HA2 := Lib.hid (HA1.out.below hb2)
      have HB2 := Lib.hid (bt HB1.out hb2)
      have HL2 := Lib.hid hA2
      have hz := HP2.out.lt
      clear p0 p1 p2 p3 p4 hA2 hb2
      obtain ⟨p0, p1, p2, p3, p4⟩ := HP2.out.facts5
      go_wp2_with fail
      refine (CO.out _).mono ?_
      rintro e w3 ⟨rfl, hb3⟩
      have HA3 := Lib.hid (HA2.out.below hb3)
      have HB3 := Lib.hid (bt HB2.out hb3)
      have HL3 := Lib.hid (HL2.out.below hb3)
      clear p0 p1 p2 p3 p4 hb3 HP2 HA2 HB2 HL2 hz HP1 HA1 HB1
      cases b with
      | false =>
        have E := Lib.hid (show ¬ ReadOk ⟨kd, r, c, s, sh⟩ l from fun h => by have := (HRK.out.1 h).1; cases this)
        go_wp2_with fail
        go_ret
        exact ⟨HB3.out, .inr ⟨E.out, rfl⟩⟩
      | true =>
        by_cases hq : L.length = l.length
        · have hq' : ((L.length : Int) != (l.length : Int)) = false := by simp [hq]
          have HQ := Lib.hid hq
          clear hq
          go_wp2_with fail
          go_loopw [8] (fun i wr => ∃ (j : Nat), j ≤ L.length ∧ i = .int .i64 j ∧ Below w3.heap.size w3 wr ∧ Hid (∀ x, x ∈ L.take j → cntEq x l = 1)) (fun i _ => L.length - (intOf i).toNat)
          case atStart => exact ⟨0, Nat.zero_le _, rfl, Below.refl _ _, fun x hx => by simp at hx⟩
          case round =>
            obtain ⟨j, hj, rfl, hnj, HJ⟩ := hrel
            by_cases hjl : j < L.length
            · have hjl' : (j : Int) < (L.length : Int) := by omega
              obtain ⟨x, hx⟩ : ∃ x, L[j]? = some x := ⟨_, List.getElem?_eq_getElem hjl⟩
              have HX := Lib.hid hx
              clear hx
              go_wp2_with fail
              go_loopw [9, 10] (fun f i wr => ∃ (q g : Nat), q ≤ l.length ∧ i = .int .i64 q ∧ f = .int .i64 g ∧ g ≤ q ∧ Below w3.heap.size w3 wr ∧ Hid (g = cntEq x (l.take q))) (fun _ i _ => l.length - (intOf i).toNat)
              case atStart => exact ⟨0, 0, Nat.zero_le _, rfl, rfl, Nat.le_refl _, hnj, rfl⟩
              case round =>
                obtain ⟨q, g, hqk, rfl, rfl, hgq, hnq, HG⟩ := hrel
                by_cases hql : q < l.length
                · have hql' : (q : Int) < (l.length : Int) := by omega
                  obtain ⟨⟨y0, y1, y2, y3, y4⟩, hy⟩ : ∃ y, l[q]? = some y := ⟨_, List.getElem?_eq_getElem hql⟩
                  have HCE := Lib.hid (cntEq_snoc x _ l q hy)
                  obtain ⟨x0, x1, x2, x3, x4⟩ := x
                  obtain ⟨b, off, rfl, hblt, c0, c1, c2, c3, c4⟩ := (HA3.out.below hnq).slot hy
                  obtain ⟨b', off', rfl, hblt', d0, d1, d2, d3, d4⟩ := (HL3.out.below hnq).slot HX.out
                  clear hy
                  by_cases he : (⟨y0, y1, y2, y3, y4⟩ : Slot) = ⟨x0, x1, x2, x3, x4⟩
                  · have E : Hid (g + 1 = cntEq ⟨x0, x1, x2, x3, x4⟩ (l.take (q + 1))) := by show _ = _; rw [HCE.out, ← HG.out, if_pos he]
                    simp only [Slot.mk.injEq] at he
                    obtain ⟨rfl, rfl, rfl, rfl, rfl⟩ := he
                    clear HCE
                    go_wp2_with fail
                    go_quiet (fail)
                    all_goals (go_wp2_with fail)
                    all_goals go_roundw
                    all_goals first
                      | exact ⟨q + 1, g + 1, by omega, by go_num, by go_num, by omega, bdn hnq _, E.out⟩
                      | (simp [intOf]; omega)
                  · have E : Hid (g = cntEq ⟨x0, x1, x2, x3, x4⟩ (l.take (q + 1))) := by show _ = _; rw [HCE.out, ← HG.out, if_neg he, Nat.add_zero]
                    have hd := differ he
                    clear he HCE
                    rcases hd with e0 | ⟨rfl, e0⟩ | ⟨rfl, rfl, e0⟩ | ⟨rfl, rfl, rfl, e0⟩ | ⟨rfl, rfl, rfl, rfl, e0⟩
                    all_goals
                      go_wp2_with fail
                      go_quiet (fail)
                      all_goals (go_wp2_with fail)
                      all_goals go_roundw
                      all_goals first
                        | exact ⟨q + 1, g, by omega, by go_num, rfl, by omega, bdn hnq _, E.out⟩
                        | (simp [intOf]; omega)
                · have hql' : ¬ (q : Int) < (l.length : Int) := by omega
                  have HG2 : Hid (g = cntEq x l) := by show _ = _; have := HG.out; rw [show q = l.length by omega, List.take_length] at this; exact this
                  have HTS := Lib.hid (take_snoc L j x HX.out)
                  by_cases hg : g = 1
                  · have hg' : ((g : Int) != 1) = false := by simp [hg]
                    have E : Hid (∀ z, z ∈ L.take (j + 1) → cntEq z l = 1) := fun z hz => by
                      rw [HTS.out] at hz
                      rcases List.mem_append.1 hz with hz | hz
                      · exact HJ.out z hz
                      · simp at hz; subst hz; rw [← HG2.out]; exact hg
                    clear hg
                    go_wp2_with fail
                    go_roundw
                    case rel => exact ⟨j + 1, by omega, by go_num, hnq, E.out⟩
                    case measure => simp [intOf]; omega
                  · have hg' : ((g : Int) != 1) = true := by simpa using (fun h => hg (by omega))
                    have E := Lib.hid (show ¬ ReadOk ⟨kd, r, c, s, sh⟩ l from fun h => hg (by rw [HG2.out]; exact (HRK.out.1 h).2.2 x (List.mem_iff_getElem?.2 ⟨j, HX.out⟩)))
                    clear hg
                    go_wp2_with fail
                    go_ret
                    exact ⟨bt HB3.out hnq, .inr ⟨E.out, rfl⟩⟩
            · have hjl' : ¬ (j : Int) < (L.length : Int) := by omega
              have E := Lib.hid (show ReadOk ⟨kd, r, c, s, sh⟩ l from HRK.out.2 ⟨by first | rfl | trivial, HQ.out, by have := HJ.out; rw [show j = L.length by omega, List.take_length] at this; exact this⟩)
              go_wp2_with fail
              go_ret
              exact ⟨bt HB3.out hnj, .inl ⟨E.out, by rw [HCM2.out]; rfl⟩⟩
        · have hq' : ((L.length : Int) != (l.length : Int)) = true := by simpa using (fun h => hq (by omega))
          have E := Lib.hid (show ¬ ReadOk ⟨kd, r, c, s, sh⟩ l from fun h => hq (HRK.out.1 h).2.1)
          clear hq
          go_wp2_with fail
          go_ret
          exact ⟨HB3.out, .inr ⟨E.out, rfl⟩⟩

theorem read_any (kd r c s sh : Int) (A : Option Addr) (cp : Nat) (l : List Slot) (w : World) (hA : RowAt encSl 5 w A l) (hw : ∀ x, x ∈ l → wfS x) (hl : l.length ≤ 2000) :
    Calls Try.prog 16 #[.agg #[.int .i64 kd, .int .i64 r, .int .i64 c, .int .i64 s, .int .i64 sh], .slice A l.length cp] w (ReadGives ⟨kd, r, c, s, sh⟩ l w) := by
  cases hm : mayP ⟨kd, r, c, s, sh⟩ with
  | false => exact read_no kd r c s sh A cp l w hm
  | true => exact read_yes kd r c s sh A cp l w hm hA hw hl
end Go.Proofs.Ythiplocjiamahaa
