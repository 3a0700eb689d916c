/-
  slices.DeleteFunc at spans, walked: the slice cut to those that stay, in place; nothing else that was there turns.
-/
import Derived.Test.YtbbaaaomncegiaaGreatDoorDelb
namespace Go.Proofs.YtbbaaaomncegiaaGreatDoor
open Go.RowKit Go.Proofs.Spn

theorem gb_trans {w w' w'' : World} {r : Option Nat} (h : w.grownBy w' r) (k : w'.grownBy w'' r) : w.grownBy w'' r :=
  ⟨k.os.trans h.os, k.tape.trans h.tape, k.output.trans h.output, Nat.le_trans h.size k.size, fun i hi hne => (k.block i (Nat.lt_of_lt_of_le hi h.size) hne).trans (h.block i hi hne)⟩
theorem gb_below {w w' w'' : World} {r : Option Nat} (h : w.grownBy w' r) (k : Below w'.heap.size w' w'') : w.grownBy w'' r :=
  gb_trans h ⟨k.os, k.tape, k.output, k.size, fun i hi _ => k.block i hi⟩
theorem gb_refl (w : World) (r : Option Nat) : w.grownBy w r := ⟨rfl, rfl, rfl, Nat.le_refl _, fun _ _ _ => rfl⟩
theorem gb_set (w : World) (a : Addr) (u : Value) : w.grownBy (w.setCell a u) (some a.block) :=
  ⟨rfl, rfl, rfl, by simp [World.setCell], fun i _ hne => Below.heap_setCell w a u i (fun e => hne (by rw [e]))⟩

set_option maxHeartbeats 4000000 in
theorem delete_any (g : Nat) (p : Sp → Bool) (eg : ∀ args w, (callFunc g args).run Tryz.prog w = .ok (.enter g args) w) (hg : Tells g p) (blk off cap : Nat) (xs : List Sp) (w : World) (hH : Holds2 w blk off xs) (hblk : blk < w.heap.size) (hn : xs.length ≤ cap) (hcap : cap ≤ 9223372036854775807) :
    Calls Tryz.prog 48 #[.slice (some ⟨blk, off, none⟩) xs.length cap, .func (.func g) #[] #[]] w fun e w' =>
      e = .returned (.slice (some ⟨blk, off, none⟩) (xs.filter fun x => !p x).length cap) ∧ Holds2 w' blk off (xs.filter fun x => !p x) ∧ w.grownBy w' (some blk) := by
  have hI := index_any g p eg hg (some ⟨blk, off, none⟩) cap xs w (hH.spans hblk) (by omega)
  have HG := Lib.hid hg
  have HH := Lib.hid hH
  clear hH hg
  rcases idxS_spec p xs with ⟨e1, hall⟩ | ⟨k0, x0, e1, hk0, hx0, hp0, hb0⟩
  · rw [e1] at hI
    clear e1
    have ef : (xs.filter fun x => !p x) = xs := List.filter_eq_self.2 (fun y hy => by simp [hall y hy])
    rw [ef]
    clear ef hall
    go_enter Tryz.func48, Tryz.ntmps48
    go_wp2_with (go_at_call 55; refine hI.mono ?_; rintro e w' ⟨rfl, hb⟩)
    go_ret
    exact ⟨rfl, HH.out.below hb hblk, gb_below (gb_refl _ _) hb⟩
  · rw [e1] at hI
    clear e1
    have hne : ((k0 : Int) == -1) = false := beq_eq_false_iff_ne.2 (by omega)
    have K0 := Lib.hid (KeptI.start hx0 hp0 hb0)
    clear hx0 hp0 hb0
    go_enter Tryz.func48, Tryz.ntmps48
    go_wp2_with (go_at_call 55; refine hI.mono ?_; rintro e w' ⟨rfl, hb⟩)
    go_loopw [5, 6] (fun s5 s6 wr => ∃ (i j : Nat) (dk : List Sp), s5 = .int .i64 i ∧ s6 = .int .i64 j ∧ j ≤ xs.length ∧ i < j ∧ w.heap.size ≤ wr.heap.size ∧ w.grownBy wr (some blk) ∧ Hid (Holds2 wr blk off dk) ∧ Hid (KeptI p xs j i dk))
      (fun _ s6 _ => xs.length - (intOf s6).toNat)
    case atStart => exact ⟨k0, k0 + 1, xs, rfl, by go_num, by omega, by omega, hb.size, gb_below (gb_refl _ _) hb, HH.out.below hb hblk, K0.out⟩
    case round =>
      obtain ⟨i, j, dk, rfl, rfl, hj, hij, hsz, hgr, HD, HK⟩ := hrel
      have hdl : i < dk.length := by rw [HK.out.len]; omega
      have HL := Lib.hid hdl
      clear hdl
      by_cases hlt : j < xs.length
      · obtain ⟨⟨x1, x2⟩, hx⟩ : ∃ x, xs[j]? = some x := ⟨_, List.getElem?_eq_getElem hlt⟩
        obtain ⟨c1, c2, _, _⟩ := HD.out j _ (HK.out.high.trans hx)
        obtain ⟨d1, d2, d3, d4⟩ := HD.out i _ (List.getElem?_eq_getElem HL.out)
        generalize dk[i].1 = o1 at d1
        generalize dk[i].2 = o2 at d2
        have HX := Lib.hid hx
        clear hx
        simp only at c1 c2
        have hcall := fun W => HG.out x1 x2 W
        have hbr : blk < wr.heap.size := by omega
        cases hq : p (x1, x2) with
        | true =>
          rw [hq] at hcall
          have E := Lib.hid (HK.out.skip HX.out hq)
          clear hq d1 d2 d3 d4
          go_wp2_with (go_at_fn g; refine (hcall _).mono ?_; rintro e w' ⟨rfl, hb'⟩)
          go_roundw
          case rel => exact ⟨i, j + 1, dk, rfl, by go_num, by omega, by omega, by have := hb'.size; simp at this; omega, gb_below (gb_below hgr (bl (Below.refl _ _) _)) hb', (HD.out.below (bl (Below.refl _ _) _) hbr).below hb' (by simp; omega), E.out⟩
          case measure => simp [intOf]; omega
        | false =>
          rw [hq] at hcall
          have E := Lib.hid (HK.out.keep HX.out hq)
          clear hq
          go_wp2_with (go_at_fn g; refine (hcall _).mono ?_; rintro e w' ⟨rfl, hb'⟩; obtain ⟨s1, s2, s3, s4⟩ := ((Two.new wr x1 x2).below hb' (by simp)).facts; have d1' := ((bl (Below.refl wr.heap.size wr) (.cells #[.int .i64 x1, .int .i64 x2] 24)).trans (hb'.mono (by simp))).cell (p := ⟨blk, off + i * 2, none⟩) hbr; have d2' := ((bl (Below.refl wr.heap.size wr) (.cells #[.int .i64 x1, .int .i64 x2] 24)).trans (hb'.mono (by simp))).cell (p := ⟨blk, off + i * 2 + 1, none⟩) hbr; have d3' := ((bl (Below.refl wr.heap.size wr) (.cells #[.int .i64 x1, .int .i64 x2] 24)).trans (hb'.mono (by simp))).frozen (p := ⟨blk, off + i * 2, none⟩) hbr; have d4' := ((bl (Below.refl wr.heap.size wr) (.cells #[.int .i64 x1, .int .i64 x2] 24)).trans (hb'.mono (by simp))).frozen (p := ⟨blk, off + i * 2 + 1, none⟩) hbr; rw [d1] at d1'; rw [d2] at d2'; rw [d3] at d3'; rw [d4] at d4')
          go_roundw
          case rel =>
            refine ⟨i + 1, j + 1, dk.set i (x1, x2), by go_num, by go_num, by omega, by omega, by have := hb'.size; simp at this ⊢; omega, ?_, ?_, E.out⟩
            · exact gb_trans (gb_trans (gb_below (gb_below hgr (bl (Below.refl _ _) _)) hb') (gb_set _ _ _)) (gb_set _ _ _)
            · exact ((HD.out.below (bl (Below.refl _ _) _) hbr).below hb' (by simp; omega)).set_ i HL.out (x1, x2)
          case measure => simp [intOf]; omega
      · obtain rfl : j = xs.length := by omega
        have hcl := fun ty => run_clear_spans wr ty blk (off + i * 2) (xs.length - i) (cap - i) (by omega)
          (fun t ht => by
            have hm : i + t / 2 < dk.length := by rw [HK.out.len]; omega
            obtain ⟨a, b, _, _⟩ := HD.out (i + t / 2) _ (List.getElem?_eq_getElem hm)
            rcases Nat.mod_two_eq_zero_or_one t with q | q
            · rw [show off + i * 2 + t = off + (i + t / 2) * 2 by omega, a]; rfl
            · rw [show off + i * 2 + t = off + (i + t / 2) * 2 + 1 by omega, b]; rfl)
          (fun t ht => by
            have hm : i + t / 2 < dk.length := by rw [HK.out.len]; omega
            obtain ⟨_, _, a, b⟩ := HD.out (i + t / 2) _ (List.getElem?_eq_getElem hm)
            rcases Nat.mod_two_eq_zero_or_one t with q | q
            · rw [show off + i * 2 + t = off + (i + t / 2) * 2 by omega, a]
            · rw [show off + i * 2 + t = off + (i + t / 2) * 2 + 1 by omega, b])
        have hlt' : ¬ (xs.length : Int) < (xs.length : Int) := by omega
        go_wp2
        go_ret
        have hK := HK.out.kept
        rw [List.take_length] at hK
        have hlen : (xs.filter fun x => !p x).length = i := by rw [← hK, List.length_take]; have := HL.out; omega
        rw [hlen]
        refine ⟨rfl, fun t x ht => ?_, gb_trans hgr (grownBy_setCells blk _ _ _)⟩
        have htl : t < i := by rw [← hlen]; exact (List.getElem?_eq_some_iff.1 ht).1
        rw [← hK, List.getElem?_take, if_pos htl] at ht
        obtain ⟨a, b, c, f⟩ := HD.out t x ht
        refine ⟨?_, ?_, ?_, ?_⟩
        · rw [World.cell?_setCells_out _ _ _ _ _ (fun _ _ => .inl (by simp; omega))]; exact a
        · rw [World.cell?_setCells_out _ _ _ _ _ (fun _ _ => .inl (by simp; omega))]; exact b
        · rw [World.frozen?_setCells]; exact c
        · rw [World.frozen?_setCells]; exact f
end Go.Proofs.YtbbaaaomncegiaaGreatDoor
