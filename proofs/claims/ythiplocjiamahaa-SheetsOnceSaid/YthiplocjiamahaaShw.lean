/-
  gatefoldref33.At; the law's small functions; sheets.Read of no slots; the chapter's examples hold: gatefoldlaw33.awake returns true; below the heap's size at the call nothing turns.
-/
import Derived.Test.YthiplocjiamahaaShv
import Derived.Maps.OwnSet
namespace Go.Proofs.Ythiplocjiamahaa
open Go.RowKit Go.Proofs.Shs

/-- What At answers: the slot and whether there is one. -/
def atV (p : Plan) (n q : Int) : Slot × Bool := if mayP p = true ∧ 0 ≤ n ∧ n ≤ 999999 ∧ 0 ≤ q ∧ q < n then (atP p n q, true) else (⟨0, 0, 0, 0, 0⟩, false)

theorem at_any (kd r c s sh n q : Int) (w : World) :
    Calls Try.prog 18 #[.agg #[.int .i64 kd, .int .i64 r, .int .i64 c, .int .i64 s, .int .i64 sh], .int .i64 n, .int .i64 q] w fun e w' => e = .returned (.tuple #[vSl (atV ⟨kd, r, c, s, sh⟩ n q).1, .bool (atV ⟨kd, r, c, s, sh⟩ n q).2]) ∧ Below w.heap.size w w' := by
  unfold atV
  split
  · rename_i h
    exact at_yes kd r c s sh n q w h.1 h.2.1 h.2.2.1 h.2.2.2.1 h.2.2.2.2
  · rename_i h
    exact at_no kd r c s sh n q w h

theorem find_snoc {L : List Slot} {k : Nat} {x : Slot} {q : Int} (hx : L[k]? = some x) (h : ∀ y, y ∈ L.take k → y.page ≠ q) (hq : x.page ≠ q) : ∀ y, y ∈ L.take (k + 1) → y.page ≠ q := by
  intro y hy
  rw [take_snoc L k x hx] at hy
  rcases List.mem_append.1 hy with hy | hy
  · exact h y hy
  · simp at hy; subst hy; exact hq
theorem find_here {L : List Slot} {k : Nat} {x : Slot} {q : Int} (hx : L[k]? = some x) (h : ∀ y, y ∈ L.take k → y.page ≠ q) (hq : x.page = q) : L.find? (fun x => decide (x.page = q)) = some x := by
  obtain ⟨hk, hx'⟩ := List.getElem?_eq_some_iff.1 hx
  have e : L = L.take k ++ x :: L.drop (k + 1) := by
    have := (List.take_append_drop k L).symm
    rw [List.drop_eq_getElem_cons hk, hx'] at this
    exact this
  rw [e, List.find?_append, List.find?_eq_none.2 (fun y hy => by simp [h y hy])]
  simp [hq]
theorem find_all_no {L : List Slot} {q : Int} (h : ∀ y, y ∈ L → y.page ≠ q) : L.find? (fun x => decide (x.page = q)) = none := by
  rw [List.find?_eq_none]
  intro y hy
  simp [h y hy]

set_option maxHeartbeats 4000000 in
theorem rat_list (kd r c s sh n q : Int) (L : List Slot) (w : World) (hq : 0 ≤ q) (hL : L.length ≤ 1000511)
    (co : ∀ W, Calls Try.prog 15 #[.agg #[.int .i64 kd, .int .i64 r, .int .i64 c, .int .i64 s, .int .i64 sh], .int .i64 n] W fun e w' => ∃ A cp, e = .returned (.slice A L.length cp) ∧ L.length ≤ cp ∧ cp ≤ maxLen ∧ RowAt encSl 5 w' A L ∧ Below W.heap.size W w') :
    Calls Try.prog 19 #[.agg #[.int .i64 kd, .int .i64 r, .int .i64 c, .int .i64 s, .int .i64 sh], .int .i64 n, .int .i64 q] w fun e w' => e = .returned (.tuple #[vSl ((L.find? fun x => decide (x.page = q)).getD ⟨0, 0, 0, 0, 0⟩), .bool (L.find? fun x => decide (x.page = q)).isSome]) ∧ Below w.heap.size w w' := by
  have CO := Lib.hid co
  clear co
  obtain ⟨F, hF⟩ : ∃ F, (L.find? fun x => decide (x.page = q)) = F := ⟨_, rfl⟩
  rw [hF]
  have HF := Lib.hid hF
  clear hF
  go_enter Try.func19, Try.ntmps19
  go_wp2_with fail
  refine (CO.out _).mono ?_
  rintro e w1 ⟨A, cp, rfl, _, _, hA, hb⟩
  have HA := Lib.hid hA
  have HB1 := Lib.hid (bt (bl (bl (Below.refl _ _) _) _) hb)
  have HR := Lib.hid (((by simpa using Blk.new (w.alloc _) 37 #[.int .i64 0, .int .i64 0, .int .i64 0, .int .i64 0, .int .i64 0] : Blk _ (w.heap.size + 1) 37 _)).keep hb)
  clear hA hb
  go_wp2_with fail
  go_loopw [9] (fun i wr => ∃ k : Nat, k ≤ L.length ∧ i = .int .i64 k ∧ w1 = wr ∧ Hid (∀ y, y ∈ L.take k → y.page ≠ q)) (fun i _ => L.length - (intOf i).toNat)
  case atStart => exact ⟨0, Nat.zero_le _, rfl, rfl, fun y hy => by simp at hy⟩
  case round =>
    obtain ⟨k, hk, rfl, rfl, HN⟩ := hrel
    obtain ⟨z0, z1, z2, z3, z4⟩ := HR.out.facts5
    obtain ⟨y0, y1, y2, y3, y4⟩ := HR.out.free5
    by_cases hlt : k < L.length
    · have hlt' : (k : Int) < (L.length : Int) := by omega
      obtain ⟨⟨x0, x1, x2, x3, x4⟩, hx⟩ : ∃ x, L[k]? = some x := ⟨_, List.getElem?_eq_getElem hlt⟩
      obtain ⟨b, off, rfl, hblt, c0, c1, c2, c3, c4⟩ := HA.out.slot hx
      have HX := Lib.hid hx
      clear hx
      by_cases hp : x4 = q
      · have E := Lib.hid ((HF.out).symm.trans (find_here HX.out HN.out hp))
        have hp' : (x4 == q) = true := by simpa using hp
        clear hp
        go_wp2_with fail
        refine gen_world (F := fun X => Blk X (w.heap.size + 1) 37 #[.int .i64 x0, .int .i64 x1, .int .i64 x2, .int .i64 x3, .int .i64 x4] ∧ Below w.heap.size w X) _ ⟨HR.out.set5 _ _ _ _ _, bset5 HB1.out (by omega) _ _ _ _ _⟩ ?_
        rintro X ⟨hX, hBX⟩
        obtain ⟨q0, q1, q2, q3, q4⟩ := hX.facts5
        rw [E.out]
        exact bodyPost_ret (v := .tuple #[.agg #[.int .i64 x0, .int .i64 x1, .int .i64 x2, .int .i64 x3, .int .i64 x4], .bool true]) (by simp [results, Try.results19, go_sem, q0, q1, q2, q3, q4]) rfl ⟨rfl, hBX⟩
      · have E := Lib.hid (find_snoc HX.out HN.out hp)
        have hp' : (x4 == q) = false := by simpa using hp
        clear hp
        go_wp2_with fail
        go_roundw
        case rel => exact ⟨k + 1, by omega, by go_num, by first | rfl | trivial, E.out⟩
        case measure => simp [intOf]; omega
    · have hlt' : ¬ (k : Int) < (L.length : Int) := by omega
      have E : Hid (F = none) := by
        show _ = _
        rw [← HF.out]
        have h := HN.out
        rw [show k = L.length by omega, List.take_length] at h
        exact find_all_no h
      go_wp2_with fail
      refine gen_world (F := fun X => Blk X (w.heap.size + 1) 37 #[.int .i64 0, .int .i64 0, .int .i64 0, .int .i64 0, .int .i64 0] ∧ Below w.heap.size w X) _ ⟨HR.out.set5 _ _ _ _ _, bset5 HB1.out (by omega) _ _ _ _ _⟩ ?_
      rintro X ⟨hX, hBX⟩
      obtain ⟨q0, q1, q2, q3, q4⟩ := hX.facts5
      rw [E.out]
      exact bodyPost_ret (v := .tuple #[.agg #[.int .i64 0, .int .i64 0, .int .i64 0, .int .i64 0, .int .i64 0], .bool false]) (by simp [results, Try.results19, go_sem, q0, q1, q2, q3, q4]) rfl ⟨rfl, hBX⟩

set_option maxHeartbeats 4000000 in
theorem rat_neg (kd r c s sh n q : Int) (L : List Slot) (w : World) (hq : q < 0) (hL : L.length ≤ 1000511)
    (co : ∀ W, Calls Try.prog 15 #[.agg #[.int .i64 kd, .int .i64 r, .int .i64 c, .int .i64 s, .int .i64 sh], .int .i64 n] W fun e w' => ∃ A cp, e = .returned (.slice A L.length cp) ∧ L.length ≤ cp ∧ cp ≤ maxLen ∧ RowAt encSl 5 w' A L ∧ Below W.heap.size W w') :
    Calls Try.prog 19 #[.agg #[.int .i64 kd, .int .i64 r, .int .i64 c, .int .i64 s, .int .i64 sh], .int .i64 n, .int .i64 q] w fun e w' => e = .returned (.tuple #[vSl ⟨0, 0, 0, 0, 0⟩, .bool false]) ∧ Below w.heap.size w w' := by
  have CO := Lib.hid co
  clear co
  go_enter Try.func19, Try.ntmps19
  go_wp2_with fail
  refine (CO.out _).mono ?_
  rintro e w1 ⟨A, cp, rfl, _, _, hA, hb⟩
  have HB1 := Lib.hid (bt (bl (bl (Below.refl _ _) _) _) hb)
  have HR := Lib.hid (((by simpa using Blk.new (w.alloc _) 37 #[.int .i64 0, .int .i64 0, .int .i64 0, .int .i64 0, .int .i64 0] : Blk _ (w.heap.size + 1) 37 _)).keep hb)
  clear hA hb
  go_wp2_with fail
  go_loopw [9] (fun i wr => i = .int .i64 0 ∧ w1 = wr) (fun _ _ => 0)
  case atStart => exact ⟨rfl, rfl⟩
  case round =>
    obtain ⟨rfl, rfl⟩ := hrel
    obtain ⟨z0, z1, z2, z3, z4⟩ := HR.out.facts5
    obtain ⟨y0, y1, y2, y3, y4⟩ := HR.out.free5
    have hq' : ¬ 0 ≤ q := by omega
    by_cases hlt : (0 : Int) < (L.length : Int)
    all_goals
      go_wp2_with fail
      refine gen_world (F := fun X => Blk X (w.heap.size + 1) 37 #[.int .i64 0, .int .i64 0, .int .i64 0, .int .i64 0, .int .i64 0] ∧ Below w.heap.size w X) _ ⟨HR.out.set5 _ _ _ _ _, bset5 HB1.out (by omega) _ _ _ _ _⟩ ?_
      rintro X ⟨hX, hBX⟩
      obtain ⟨q0, q1, q2, q3, q4⟩ := hX.facts5
      exact bodyPost_ret (v := .tuple #[.agg #[.int .i64 0, .int .i64 0, .int .i64 0, .int .i64 0, .int .i64 0], .bool false]) (by simp [results, Try.results19, go_sem, q0, q1, q2, q3, q4]) rfl ⟨rfl, hBX⟩

theorem rat_any (kd r c s sh n q : Int) (w : World) :
    Calls Try.prog 19 #[.agg #[.int .i64 kd, .int .i64 r, .int .i64 c, .int .i64 s, .int .i64 sh], .int .i64 n, .int .i64 q] w fun e w' => e = .returned (.tuple #[vSl (atV ⟨kd, r, c, s, sh⟩ n q).1, .bool (atV ⟨kd, r, c, s, sh⟩ n q).2]) ∧ Below w.heap.size w w' := by
  have hl := len_all_le ⟨kd, r, c, s, sh⟩ n
  by_cases hq : 0 ≤ q
  · have := rat_list kd r c s sh n q (allP ⟨kd, r, c, s, sh⟩ n) w hq hl (fun W => rall_any kd r c s sh n W)
    unfold atV
    split
    · rename_i h
      rw [find_yes _ n q h.1 h.2.1 h.2.2.1 hq h.2.2.2.2] at this
      exact this
    · rename_i h
      rw [find_no _ n q hq h] at this
      exact this
  · unfold atV
    rw [if_neg (by omega)]
    exact rat_neg kd r c s sh n q _ w (by omega) hl (fun W => rall_any kd r c s sh n W)

/-! ### The law's plans -/
set_option maxHeartbeats 400000 in
theorem lgrid_any (r c s : Int) (w : World) : Calls Try.prog 23 #[.int .i64 r, .int .i64 c, .int .i64 s] w fun e w' => e = .returned (.agg #[.int .i64 1, .int .i64 r, .int .i64 c, .int .i64 s, .int .i64 0]) ∧ Below w.heap.size w w' := by
  go_enter Try.func23, Try.ntmps23
  go_wp2_with fail
  exact bodyPost_ret (v := .agg #[.int .i64 1, .int .i64 r, .int .i64 c, .int .i64 s, .int .i64 0]) (by simp [results, Try.results23, go_sem]) rfl ⟨rfl, bl (Below.refl _ _) _⟩
set_option maxHeartbeats 400000 in
theorem lbooks_any (sh : Int) (w : World) : Calls Try.prog 21 #[.int .i64 sh] w fun e w' => e = .returned (.agg #[.int .i64 2, .int .i64 1, .int .i64 2, .int .i64 2, .int .i64 sh]) ∧ Below w.heap.size w w' := by
  go_enter Try.func21, Try.ntmps21
  go_wp2_with fail
  exact bodyPost_ret (v := .agg #[.int .i64 2, .int .i64 1, .int .i64 2, .int .i64 2, .int .i64 sh]) (by simp [results, Try.results21, go_sem]) rfl ⟨rfl, bl (Below.refl _ _) _⟩

/-! ### put -/
def encI (x : Int) : List Value := [.int .i64 x]
theorem encI_len (x : Int) : (encI x).length = 1 := rfl
theorem RowAt.num {w : World} {A : Option Addr} {xs : List Int} {i : Nat} {x : Int} (h : RowAt encI 1 w A xs) (hx : xs[i]? = some x) : ∃ b off, A = some ⟨b, off, none⟩ ∧ b < w.heap.size ∧ w.cell? ⟨b, off + i, none⟩ = some (.int .i64 x) := by
  obtain ⟨b, off, e, hb, hc⟩ := h i _ hx
  have := hc 0 _ rfl
  rw [Nat.mul_one, Nat.add_zero] at this
  exact ⟨b, off, e, hb, this⟩

set_option maxHeartbeats 4000000 in
theorem put_yes (kd r c s sh n K : Int) (A : Option Addr) (cp : Nat) (ps : List Int) (w : World) (hA : RowAt encI 1 w A ps) (hps : (allP ⟨kd, r, c, s, sh⟩ n).map (·.page) = ps) (hK : cntP ⟨kd, r, c, s, sh⟩ n = K) :
    Calls Try.prog 22 #[.agg #[.int .i64 kd, .int .i64 r, .int .i64 c, .int .i64 s, .int .i64 sh], .int .i64 n, .int .i64 K, .slice A ps.length cp] w fun e w' => e = .returned (.bool true) ∧ Below w.heap.size w w' := by
  have co := fun W => all_any kd r c s sh n W
  have cc := fun W => count_any kd r c s sh n W
  have hl := len_all_le ⟨kd, r, c, s, sh⟩ n
  unfold GivesAll at co
  rw [hK] at cc
  generalize allP ⟨kd, r, c, s, sh⟩ n = L at co hps hl
  have hlen : L.length = ps.length := by rw [← hps, List.length_map]
  have HPS := Lib.hid hps
  have HLEN := Lib.hid hlen
  have hne : ((L.length : Int) != (ps.length : Int)) = false := by simp [hlen]
  have HA := Lib.hid hA
  have CO := Lib.hid co
  clear hps hlen hA hK co
  go_enter Try.func22, Try.ntmps22
  go_wp2_with fail
  refine (CO.out _).mono ?_
  rintro e w1 ⟨B, cp1, rfl, _, _, hB, hb⟩
  obtain ⟨p0, p1, p2, p3, p4⟩ := ((Blk.new w 23 #[.int .i64 kd, .int .i64 r, .int .i64 c, .int .i64 s, .int .i64 sh]).keep hb).facts5
  have B1 := Lib.hid (bt (bl (Below.refl _ _) _) hb)
  have HB := Lib.hid hB
  clear hb hB
  go_wp2_with fail
  refine (cc _).mono ?_
  rintro e w2 ⟨rfl, hb2⟩
  have B2 := Lib.hid (bt B1.out hb2)
  have HB2 := Lib.hid (HB.out.below hb2)
  have HA2 := Lib.hid (HA.out.below B2.out)
  clear hb2 p0 p1 p2 p3 p4 B1 HB HA
  go_wp2_with fail
  go_loopw [10] (fun i wr => ∃ k : Nat, k ≤ L.length ∧ i = .int .i64 k ∧ Hid (Below w2.heap.size w2 wr)) (fun i _ => L.length - (intOf i).toNat)
  case atStart => exact ⟨0, Nat.zero_le _, rfl, Below.refl _ _⟩
  case round =>
    obtain ⟨k, hk, rfl, hnx⟩ := hrel
    by_cases hlt : k < L.length
    · have hlt' : (k : Int) < (L.length : Int) := by omega
      obtain ⟨⟨x0, x1, x2, x3, x4⟩, hx⟩ : ∃ x, L[k]? = some x := ⟨_, List.getElem?_eq_getElem hlt⟩
      have hp : ps[k]? = some x4 := by rw [← HPS.out, List.getElem?_map, hx]; rfl
      obtain ⟨b, off, rfl, hblt, _, _, _, _, c4⟩ := (HB2.out.below hnx.out).slot hx
      obtain ⟨b', off', rfl, hblt', d0⟩ := (HA2.out.below hnx.out).num hp
      have hlt2 : (k : Int) < (ps.length : Int) := by have := HLEN.out; omega
      clear hx hp
      go_wp2_with fail
      go_quiet (fail)
      go_wp2_with fail
      go_roundw
      case rel => exact ⟨k + 1, by omega, by go_num, bdn hnx.out _⟩
      case measure => simp [intOf]; omega
    · have hlt' : ¬ (k : Int) < (L.length : Int) := by omega
      go_wp2_with fail
      go_ret
      exact ⟨rfl, B2.out.trans (hnx.out.mono B2.out.size)⟩

end Go.Proofs.Ythiplocjiamahaa
