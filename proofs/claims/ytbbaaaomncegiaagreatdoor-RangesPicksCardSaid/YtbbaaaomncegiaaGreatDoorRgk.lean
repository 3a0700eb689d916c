/-
  strings.SplitSeq's iterator at a comma, walked: what stands between commas, in its order; or as far as a round says 'no more'.
-/
import Derived.RangeFuncNested
import Derived.RangeFuncBound
import Derived.RangeFuncCalls
import Derived.RangeFuncLeaves
import Derived.Shelf.Abstract
import Derived.Shelf.RegionOpen
import Derived.WalkKit
import Derived.OwnWalkIn
import Derived.TacticsInMore
import Derived.LoopNIn
import Derived.LoopIn
import Derived.Test.YtbbaaaomncegiaaGreatDoorRgj
namespace Go.Proofs.YtbbaaaomncegiaaGreatDoor
open Go.RowKit Go.Shelf Go.Proofs.Spn Go.Proofs.Rng Go.Proofs.Prn
attribute [local go_sem] Oper.semAt_some

theorem index_comma (l : Bytes) : (Lib.index l [44] = -1 ∧ ∀ c, c ∈ l → c ≠ 44) ∨ ∃ x r, l = x ++ 44 :: r ∧ (∀ c, c ∈ x → c ≠ 44) ∧ Lib.index l [44] = (x.length : Int) := by
  induction l with
  | nil => exact .inl ⟨rfl, fun _ h => by cases h⟩
  | cons b l ih =>
    rw [Lib.index]
    by_cases hb : b = 44
    · subst hb
      refine .inr ⟨[], l, rfl, (fun _ h => by cases h), ?_⟩
      rw [if_pos (by simp [List.isPrefixOf])]
      rfl
    · have hp : ([44] : Bytes).isPrefixOf (b :: l) = false := by
        have h' : ((44 : UInt8) == b) = false := by rw [beq_eq_false_iff_ne]; exact fun e => hb e.symm
        simp [List.isPrefixOf, h']
      rw [if_neg (by rw [hp]; decide)]
      rcases ih with ⟨e, h⟩ | ⟨x, r, rfl, h, e⟩
      · left
        rw [e]
        refine ⟨rfl, fun c hc => ?_⟩
        rcases List.mem_cons.1 hc with rfl | hc
        · exact hb
        · exact h c hc
      · right
        refine ⟨b :: x, r, rfl, fun c hc => ?_, ?_⟩
        · rcases List.mem_cons.1 hc with rfl | hc
          · exact hb
          · exact h c hc
        · rw [e, if_neg (by rw [beq_iff_eq]; omega), List.length_cons]
          omega
theorem cut_head (x r : Bytes) : (bs (x ++ 44 :: r)).extract 0 x.length = bs x := by
  rw [← bs_self ((bs (x ++ 44 :: r)).extract 0 x.length), ByteArray.data_extract, Array.toList_extract, List.extract_eq_take_drop]
  congr 1
  show ((x ++ 44 :: r).drop 0).take (x.length - 0) = x
  simp
theorem cut_tail (x r : Bytes) : (bs (x ++ 44 :: r)).extract (x.length + 1) (bs (x ++ 44 :: r)).size = bs r := by
  rw [extract_tail]
  congr 1
  show (x ++ 44 :: r).drop (x.length + 1) = r
  rw [List.drop_append]
  simp

/-- The rest in its box: for the loop's measure. -/
def restOf (sB : Nat) (W : World) : Nat := match W.cell? ⟨sB, 0, none⟩ with | some (.string b) => b.size | _ => 0

theorem restOf_cell {sB : Nat} {W : World} {b : ByteArray} (h : W.cell? ⟨sB, 0, none⟩ = some (.string b)) : restOf sB W = b.size := by unfold restOf; rw [h]

set_option maxRecDepth 100000 in
set_option maxHeartbeats 4000000 in
theorem split1_in (n L sepB sB saveB : Nat) (hn : 5 ≤ n) (m : Int) (s : Bytes) (hs : s.length ≤ 10000000) (K : List Bytes → World → Prop) (Kx : World → Prop)
    (hread : ∀ pre A, K pre A → A.cell? ⟨sepB, 0, none⟩ = some (.string ⟨#[44]⟩) ∧ A.cell? ⟨saveB, 0, none⟩ = some (.int .i64 0) ∧ A.cell? ⟨0, 0, none⟩ = some (.int .i64 m))
    (hset : ∀ pre A v, K pre A → K pre (A.setCell ⟨sB, 0, none⟩ v))
    (hY : ∀ pre x post W, splitR s = pre ++ x :: post → K pre W → YieldAt Fence.wide (n - 1) Tryz.prog L #[.string (bs x)] W fun e W' =>
      (e = .returned (.bool true) ∧ K (pre ++ [x]) W' ∧ W'.cell? ⟨sB, 0, none⟩ = W.cell? ⟨sB, 0, none⟩ ∧ W'.frozen? ⟨sB, 0, none⟩ = W.frozen? ⟨sB, 0, none⟩) ∨ (e = .returned (.bool false) ∧ Kx W'))
    (W : World) (hc : W.cell? ⟨sB, 0, none⟩ = some (.string (bs s))) (hf : W.frozen? ⟨sB, 0, none⟩ = false) (h0 : K [] W) :
    CallsIn Fence.wide n Tryz.prog 97 #[.func (.yield L) #[] #[], .pointer (some ⟨sepB, 0, none⟩), .pointer (some ⟨sB, 0, none⟩), .pointer (some ⟨saveB, 0, none⟩)] W fun e W' => (∃ v, e = .returned v) ∧ (K (splitR s) W' ∨ Kx W') := by
  refine callsIn_of_wp Tryz.func97 rfl trivial ?_ rfl
  simp only [Tryz.ntmps97, List.size_toArray, List.length_cons, List.length_nil, Nat.reduceAdd, Nat.reduceSub, Array.replicate_succ, Array.replicate_zero, List.push_toArray, List.append_toArray, List.nil_append, List.cons_append]
  obtain ⟨r1, r2, r3⟩ := hread [] W h0
  gi_wp2
  gi_loopw [7] (fun i wr => ∃ (pre : List Bytes) (r : Bytes), splitR s = pre ++ splitR r ∧ r.length ≤ 10000000 ∧ K pre wr ∧ wr.cell? ⟨sB, 0, none⟩ = some (.string (bs r)) ∧ wr.frozen? ⟨sB, 0, none⟩ = false)
    (fun _ wr => restOf sB wr)
  case atStart => exact ⟨[], s, rfl, hs, h0, hc, hf⟩
  case round =>
    obtain ⟨pre, r, hsp, hrl, hK, hc, hf⟩ := hrel
    obtain ⟨r1, r2, r3⟩ := hread pre wr hK
    have hix := Tryz.strings_Index (bs r) ⟨#[44]⟩ m wr (by rw [bs_size]; omega) r3
    rw [bs_list, show (⟨#[44]⟩ : ByteArray).data.toList = [44] from rfl] at hix
    rcases index_comma r with ⟨hi, hno⟩ | ⟨x, q, rfl, hx, hi⟩
    · rw [hi] at hix
      rw [split_miss r hno] at hsp
      obtain ⟨fn, tmps, assign, body, hy, hR⟩ := hY pre r [] wr hsp hK
      clear hi hno
      gi_wp2
      refine ⟨trivial, fun _ => by omega, ?_⟩
      refine (callsIn_wide.2 hix).mono ?_
      rintro e w' ⟨rfl, rfl⟩
      gi_wp2
      refine ⟨fun _ => by omega, ?_⟩
      refine hR.mono ?_
      rintro e W3 (⟨rfl, hK3, _, _⟩ | ⟨rfl, hx3⟩)
      · gi_wp2
        go_end0
        exact ⟨⟨_, rfl⟩, .inl (by rw [hsp]; exact hK3)⟩
      · gi_wp2
        go_end0
        exact ⟨⟨_, rfl⟩, .inr hx3⟩
    · rw [hi] at hix
      rw [split_hit x q hx] at hsp
      obtain ⟨fn, tmps, assign, body, hy, hR⟩ := hY pre x (splitR q) wr hsp hK
      have k1 := cut_head x q
      have k2 := cut_tail x q
      have hsz : (bs (x ++ 44 :: q)).size = x.length + (q.length + 1) := by rw [bs_size, List.length_append, List.length_cons]
      rw [List.length_append, List.length_cons] at hrl
      have w0 : wrap64 (x.length : Int) = (x.length : Int) := IntWalk.wrap64_in _ (by omega)
      have w1 : wrap64 ((x.length : Int) + 1) = (x.length : Int) + 1 := IntWalk.wrap64_in _ (by omega)
      have t0 : ((x.length : Int) + 1).toNat = x.length + 1 := by omega
      have i0' : ¬ (x.length : Int) < 0 := by omega
      rw [hsz] at k2
      clear hi hx
      gi_wp2
      refine ⟨trivial, fun _ => by omega, ?_⟩
      refine (callsIn_wide.2 hix).mono ?_
      rintro e w' ⟨rfl, rfl⟩
      gi_wp2
      refine ⟨fun _ => by omega, ?_⟩
      refine hR.mono ?_
      rintro e W3 (⟨rfl, hK3, hc3, hf3⟩ | ⟨rfl, hx3⟩)
      · rw [hc] at hc3
        rw [hf] at hf3
        obtain ⟨r1, r2, r3⟩ := hread _ W3 hK3
        gi_wp2
        go_roundw
        case rel => exact ⟨pre ++ [x], q, by rw [hsp]; simp, by omega, hset _ _ _ hK3, World.cell?_setCell_same _ _ _ hc3, by rw [World.frozen?_setCell]; exact hf3⟩
        case measure =>
          rw [restOf_cell (World.cell?_setCell_same _ _ _ hc3), restOf_cell hc, hsz, bs_size]
          omega
      · gi_wp2
        refine bodyPost_ret (results_none rfl _ _ _) rfl ?_
        exact ⟨⟨_, rfl⟩, .inr hx3⟩
end Go.Proofs.YtbbaaaomncegiaaGreatDoor
