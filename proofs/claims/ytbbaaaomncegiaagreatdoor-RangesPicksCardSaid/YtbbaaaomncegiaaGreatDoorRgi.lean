/-
  (ranges.part).read: what a part of a text tells: its span, and whether it is put; or the place that is wrong; below the heap's size nothing turns.
-/
import Derived.Test.YtbbaaaomncegiaaGreatDoorRgh
namespace Go.Proofs.YtbbaaaomncegiaaGreatDoor
open Go.RowKit Go.Proofs.Spn Go.Proofs.Rng Go.Proofs.Prn

theorem numR_len : ∀ (k n : Nat) (s : Bytes), (numR k n s).2.length ≤ s.length
  | k, n, [] => by cases k <;> exact Nat.le_refl _
  | 0, n, c :: r => Nat.le_refl _
  | k + 1, n, c :: r => by
    unfold numR
    split
    · have := numR_len k (10 * n + (c.toNat - 48)) r
      simp only [List.length_cons]
      omega
    · exact Nat.le_refl _
theorem numR_lt : ∀ (k n : Nat) (s : Bytes), (numR k n s).1 < (n + 1) * 10 ^ k
  | k, n, [] => by
    have : 0 < 10 ^ k := Nat.pow_pos (by omega)
    have e : (numR k n []).1 = n := by cases k <;> rfl
    rw [e]
    calc n < n + 1 := by omega
      _ = (n + 1) * 1 := by omega
      _ ≤ (n + 1) * 10 ^ k := Nat.mul_le_mul_left _ this
  | 0, n, c :: r => by
    show n < _
    simp
  | k + 1, n, c :: r => by
    unfold numR
    split
    · rename_i h
      have hc := (digB_iff c).1 h.1
      have h1 := numR_lt k (10 * n + (c.toNat - 48)) r
      have h2 : (10 * n + (c.toNat - 48) + 1) * 10 ^ k ≤ ((n + 1) * 10) * 10 ^ k := Nat.mul_le_mul_right _ (by omega)
      rw [Nat.pow_succ]
      calc _ < _ := h1
        _ ≤ _ := h2
        _ = (n + 1) * (10 ^ k * 10) := by rw [Nat.mul_assoc, Nat.mul_comm 10]
    · have : 0 < 10 ^ (k + 1) := Nat.pow_pos (by omega)
      show n < _
      calc n < n + 1 := by omega
        _ = (n + 1) * 1 := by omega
        _ ≤ (n + 1) * 10 ^ (k + 1) := Nat.mul_le_mul_left _ this
theorem headR_le (s : Bytes) : (headR s).1 ≤ 999999 := by
  have h := numR_lt 6 0 s
  have : (0 + 1) * 10 ^ 6 = 1000000 := by decide
  unfold headR
  omega
theorem cutR_len (d : UInt8) (s : Bytes) : (cutR d s).1.length ≤ s.length := by
  cases s with
  | nil => exact Nat.le_refl _
  | cons c r =>
    show (if c = d then (r, true) else (c :: r, false)).1.length ≤ _
    split
    · simp
    · exact Nat.le_refl _
theorem cutR_no {d : UInt8} {s : Bytes} (h : (cutR d s).2 = false) : (cutR d s).1 = s := by
  cases s with
  | nil => rfl
  | cons c r =>
    have h' : (if c = d then (r, true) else (c :: r, false)).2 = false := h
    show (if c = d then (r, true) else (c :: r, false)).1 = _
    by_cases hc : c = d
    · rw [if_pos hc] at h'; cases h'
    · rw [if_neg hc]

theorem empty_yes {r : Bytes} (h : r = []) : ((bs r).toList == []) = true := by rw [ByteArray.toList_eq, bs_list, h]; rfl
theorem empty_no {r : Bytes} (h : r ≠ []) : ((bs r).toList == []) = false := by rw [ByteArray.toList_eq, bs_list, beq_eq_false_iff_ne]; exact h
theorem empty_yes2 {r : Bytes} (h : r = []) : (bs r).toList.isEmpty = true := by rw [ByteArray.toList_eq, bs_list, h]; rfl
theorem empty_no2 {r : Bytes} (h : r ≠ []) : (bs r).toList.isEmpty = false := by
  rw [ByteArray.toList_eq, bs_list]
  cases r with
  | nil => exact absurd rfl h
  | cons c r => rfl

/-- What read returns. -/
def ReadGives (p : Bytes) (n : Nat) (w : World) (e : Ending) (w' : World) : Prop := Below w.heap.size w w' ∧
  match readR p with
  | .ok s put => e = .returned (.tuple #[vS s, .bool put, .int .i64 (-1)])
  | .wrong k => e = .returned (.tuple #[.agg #[.int .i64 0, .int .i64 0], .bool false, .int .i64 ((n : Int) + (k : Int))])
theorem read_ok {p : Bytes} {n : Nat} {s : Sp} {put : Bool} {w w' : World} (h : readR p = .ok s put) (hb : Below w.heap.size w w') : ReadGives p n w (.returned (.tuple #[vS s, .bool put, .int .i64 (-1)])) w' := by
  refine ⟨hb, ?_⟩
  rw [h]
theorem read_wrong {p : Bytes} {n k : Nat} {z : Int} {w w' : World} (h : readR p = .wrong k) (hz : z = (n : Int) + (k : Int)) (hb : Below w.heap.size w w') : ReadGives p n w (.returned (.tuple #[.agg #[.int .i64 0, .int .i64 0], .bool false, .int .i64 z])) w' := by
  refine ⟨hb, ?_⟩
  rw [h, hz]

set_option maxHeartbeats 8000000 in
set_option maxRecDepth 100000 in
theorem read_any (p : Bytes) (n : Nat) (w : World) (hp : p.length ≤ 10000000) (hn : n ≤ 10000000) :
    Calls Tryz.prog 58 #[.agg #[.string (bs p), .int .i64 n]] w (ReadGives p n w) := by
  have cT := fun W => cut_any 33 p W
  have lT := cutR_len 33 p
  have hr : readR p = readR p := rfl
  conv at hr => rhs; unfold readR
  obtain ⟨t, taken, ht⟩ : ∃ t taken, cutR 33 p = (t, taken) := ⟨_, _, rfl⟩
  rw [ht] at cT lT hr
  simp only at cT lT hr
  have cN := fun W => number_any (bs t) W (by rw [bs_size]; omega)
  have lN := numR_len 6 0 t
  have bN := headR_le t
  rw [bs_list] at cN
  obtain ⟨a, r1, ha⟩ : ∃ a r1, headR t = (a, r1) := ⟨_, _, rfl⟩
  rw [show numR 6 0 t = headR t from rfl] at lN
  rw [ha] at cN lN bN hr
  simp only at cN lN bN hr
  have HR := Lib.hid hr
  clear hr ht ha
  have ps : (bs p).size = p.length := bs_size p
  have s1 : (bs r1).size = r1.length := bs_size r1
  have e1 : IntKind.i64.wrap ((n : Int) + (p.length : Int)) = (n : Int) + (p.length : Int) := IntWalk.i64_in _ (by omega)
  have e2 : IntKind.i64.wrap ((n : Int) + (p.length : Int) - (r1.length : Int)) = (n : Int) + (p.length : Int) - (r1.length : Int) := IntWalk.i64_in _ (by omega)
  have hT0 : Two ((w.alloc (.cells #[.string (bs p), .int .i64 n] 84)).alloc (.cells #[.int .i64 0, .int .i64 0] 24)) (w.heap.size + 1) 0 0 := by
    have := Two.new (w.alloc (.cells #[.string (bs p), .int .i64 n] 84)) 0 0
    rw [World.size_alloc] at this
    exact this
  have HT0 := Lib.hid hT0
  have HB0 : Hid (Below w.heap.size w ((w.alloc (.cells #[.string (bs p), .int .i64 n] 84)).alloc (.cells #[.int .i64 0, .int .i64 0] 24))) := bl (bl (Below.refl _ _) _) _
  clear hT0
  by_cases h0 : a = 0
  · have b0 : ((a : Int) == 0) = true := by rw [beq_iff_eq]; omega
    have hq := HR.out
    rw [if_pos h0] at hq
    have HQ2 := Lib.hid hq
    clear hq HR h0
    go_enter Tryz.func58, Tryz.ntmps58
    go_wp2_with fail
    refine (cT _).mono ?_
    rintro e w1 ⟨rfl, rfl⟩
    go_wp2_with fail
    refine (cN _).mono ?_
    rintro e w2 ⟨rfl, hb2⟩
    have HB2 := Lib.hid (bt HB0.out hb2)
    have HT2 := Lib.hid (HT0.out.below hb2 HT0.out.lt)
    obtain ⟨z0, z1, z2, z3⟩ := HT2.out.facts
    have hgw := HB2.out.size
    clear hb2 cT cN HB0 HT0
    go_wp2_with fail
    refine gen_world (F := fun W => Two W (w.heap.size + 1) (0) (0) ∧ Below w.heap.size w W) _ ⟨(HT2.out.set0 _).set1 _, (by repeat (first | exact HB2.out | refine Below.setCell ?_ (by simp) _))⟩ ?_
    rintro W3 ⟨hT3, hB3⟩
    obtain ⟨k0, k1, _, _⟩ := hT3.facts
    refine bodyPost_ret (v := .tuple #[.agg #[.int .i64 0, .int .i64 0], .bool false, .int .i64 ((n : Int) + (p.length : Int) - (r1.length : Int))]) (by simp [results, Tryz.results58, go_sem, k0, k1]) rfl ?_
    exact read_wrong HQ2.out (by omega) hB3
  · have b0 : ((a : Int) == 0) = false := by rw [beq_eq_false_iff_ne]; omega
    have hq := HR.out
    rw [if_neg h0] at hq
    have cD := fun W => cut_any 45 r1 W
    have lD := cutR_len 45 r1
    have nD := @cutR_no 45 r1
    obtain ⟨r2, to_, hd⟩ : ∃ r2 to_, cutR 45 r1 = (r2, to_) := ⟨_, _, rfl⟩
    rw [hd] at cD lD nD hq
    simp only at cD lD nD hq
    have HQ := Lib.hid hq
    have f1 : IntKind.i64.wrap ((a : Int) + 1) = (a : Int) + 1 := IntWalk.i64_in _ (by omega)
    have s2 : (bs r2).size = r2.length := bs_size r2
    have e3 : IntKind.i64.wrap ((n : Int) + (p.length : Int) - (r2.length : Int)) = (n : Int) + (p.length : Int) - (r2.length : Int) := IntWalk.i64_in _ (by omega)
    clear hq HR hd h0
    cases to_ with
    | false =>
      obtain rfl := nD rfl
      clear nD
      by_cases hn2 : r2 = []
      · have hq := HQ.out
        rw [if_neg (by decide), if_pos hn2] at hq
        have HQ2 := Lib.hid hq
        have q0 := empty_yes hn2
        have q1 := empty_yes2 hn2
        clear hq HQ hn2
        go_enter Tryz.func58, Tryz.ntmps58
        go_wp2_with fail
        refine (cT _).mono ?_
        rintro e w1 ⟨rfl, rfl⟩
        go_wp2_with fail
        refine (cN _).mono ?_
        rintro e w2 ⟨rfl, hb2⟩
        have HB2 := Lib.hid (bt HB0.out hb2)
        have HT2 := Lib.hid (HT0.out.below hb2 HT0.out.lt)
        obtain ⟨z0, z1, z2, z3⟩ := HT2.out.facts
        have hgw := HB2.out.size
        clear hb2 cT cN HB0 HT0
        go_wp2_with fail
        refine (cD _).mono ?_
        rintro e w3 ⟨rfl, rfl⟩
        go_wp2_with fail
        refine gen_world (F := fun W => Two W (w.heap.size + 1) (a) ((a : Int) + 1) ∧ Below w.heap.size w W) _ ⟨(((HT2.out.set0 _).set1 _).set0 _).set1 _, (by repeat (first | exact HB2.out | refine Below.setCell ?_ (by simp) _))⟩ ?_
        rintro W3 ⟨hT3, hB3⟩
        obtain ⟨k0, k1, _, _⟩ := hT3.facts
        refine bodyPost_ret (v := .tuple #[.agg #[.int .i64 (a : Int), .int .i64 ((a : Int) + 1)], .bool (!taken), .int .i64 (-1)]) (by simp [results, Tryz.results58, go_sem, k0, k1]) rfl ?_
        exact read_ok HQ2.out hB3
      · have hq := HQ.out
        rw [if_neg (by decide), if_neg hn2] at hq
        have HQ2 := Lib.hid hq
        have q0 := empty_no hn2
        have q1 := empty_no2 hn2
        clear hq HQ hn2
        go_enter Tryz.func58, Tryz.ntmps58
        go_wp2_with fail
        refine (cT _).mono ?_
        rintro e w1 ⟨rfl, rfl⟩
        go_wp2_with fail
        refine (cN _).mono ?_
        rintro e w2 ⟨rfl, hb2⟩
        have HB2 := Lib.hid (bt HB0.out hb2)
        have HT2 := Lib.hid (HT0.out.below hb2 HT0.out.lt)
        obtain ⟨z0, z1, z2, z3⟩ := HT2.out.facts
        have hgw := HB2.out.size
        clear hb2 cT cN HB0 HT0
        go_wp2_with fail
        refine (cD _).mono ?_
        rintro e w3 ⟨rfl, rfl⟩
        go_wp2_with fail
        refine gen_world (F := fun W => Two W (w.heap.size + 1) (0) (0) ∧ Below w.heap.size w W) _ ⟨(((HT2.out.set0 _).set1 _).set0 _).set1 _, (by repeat (first | exact HB2.out | refine Below.setCell ?_ (by simp) _))⟩ ?_
        rintro W3 ⟨hT3, hB3⟩
        obtain ⟨k0, k1, _, _⟩ := hT3.facts
        refine bodyPost_ret (v := .tuple #[.agg #[.int .i64 0, .int .i64 0], .bool false, .int .i64 ((n : Int) + (p.length : Int) - (r2.length : Int))]) (by simp [results, Tryz.results58, go_sem, k0, k1]) rfl ?_
        exact read_wrong HQ2.out (by omega) hB3
    | true =>
      clear nD
      by_cases hn2 : r2 = []
      · have hq := HQ.out
        rw [if_pos rfl, if_pos hn2] at hq
        have HQ2 := Lib.hid hq
        have q0 := empty_yes hn2
        have q1 := empty_yes2 hn2
        clear hq HQ hn2
        go_enter Tryz.func58, Tryz.ntmps58
        go_wp2_with fail
        refine (cT _).mono ?_
        rintro e w1 ⟨rfl, rfl⟩
        go_wp2_with fail
        refine (cN _).mono ?_
        rintro e w2 ⟨rfl, hb2⟩
        have HB2 := Lib.hid (bt HB0.out hb2)
        have HT2 := Lib.hid (HT0.out.below hb2 HT0.out.lt)
        obtain ⟨z0, z1, z2, z3⟩ := HT2.out.facts
        have hgw := HB2.out.size
        clear hb2 cT cN HB0 HT0
        go_wp2_with fail
        obtain ⟨y0, y1, y2, y3⟩ := (((HT2.out.set0 (a : Int)).set1 ((a : Int) + 1)).set1 1000000).facts
        refine (cD _).mono ?_
        rintro e w3 ⟨rfl, rfl⟩
        go_wp2_with fail
        refine gen_world (F := fun W => Two W (w.heap.size + 1) (a) (1000000) ∧ Below w.heap.size w W) _ ⟨((((HT2.out.set0 _).set1 _).set1 _).set0 _).set1 _, (by repeat (first | exact HB2.out | refine Below.setCell ?_ (by simp) _))⟩ ?_
        rintro W3 ⟨hT3, hB3⟩
        obtain ⟨k0, k1, _, _⟩ := hT3.facts
        refine bodyPost_ret (v := .tuple #[.agg #[.int .i64 (a : Int), .int .i64 (1000000)], .bool (!taken), .int .i64 (-1)]) (by simp [results, Tryz.results58, go_sem, k0, k1]) rfl ?_
        exact read_ok HQ2.out hB3
      · have hq := HQ.out
        rw [if_pos rfl, if_neg hn2] at hq
        have q0 := empty_no hn2
        have q1 := empty_no2 hn2
        have cM := fun W => number_any (bs r2) W (by rw [bs_size]; omega)
        have lM := numR_len 6 0 r2
        have bM := headR_le r2
        rw [bs_list] at cM
        obtain ⟨b, r3, hb⟩ : ∃ b r3, headR r2 = (b, r3) := ⟨_, _, rfl⟩
        rw [show numR 6 0 r2 = headR r2 from rfl] at lM
        rw [hb] at cM lM bM hq
        simp only at cM lM bM hq
        have HQ3 := Lib.hid hq
        have s3 : (bs r3).size = r3.length := bs_size r3
        have e4 : IntKind.i64.wrap ((n : Int) + (p.length : Int) - (r3.length : Int)) = (n : Int) + (p.length : Int) - (r3.length : Int) := IntWalk.i64_in _ (by omega)
        have f2 : IntKind.i64.wrap ((b : Int) + 1) = (b : Int) + 1 := IntWalk.i64_in _ (by omega)
        clear hq HQ hn2 hb
        have num2 : Hid (∀ W : World, Two W (w.heap.size + 1) a 1000000 → Below w.heap.size w W → Calls Tryz.prog 70 #[.string (bs r2)] W fun e w' => e = .returned (.tuple #[.int .i64 b, .string (bs r3)]) ∧ Hid (Two w' (w.heap.size + 1) a 1000000) ∧ Hid (Below w.heap.size w w')) := fun W h1 h2 => (cM W).mono fun e w' h => ⟨h.1, h1.below h.2 h1.lt, bt h2 h.2⟩
        clear cM
        by_cases hba : b < a
        · have g1 : (b : Int) < (a : Int) := by omega
          have g2 : decide ((b : Int) < (a : Int)) = true := decide_eq_true g1
          have hq := HQ3.out
          rw [if_pos hba] at hq
          have HQ2 := Lib.hid hq
          clear hq HQ3 hba
          go_enter Tryz.func58, Tryz.ntmps58
          go_wp2_with fail
          refine (cT _).mono ?_
          rintro e w1 ⟨rfl, rfl⟩
          go_wp2_with fail
          refine (cN _).mono ?_
          rintro e w2 ⟨rfl, hb2⟩
          have HB2 := Lib.hid (bt HB0.out hb2)
          have HT2 := Lib.hid (HT0.out.below hb2 HT0.out.lt)
          obtain ⟨z0, z1, z2, z3⟩ := HT2.out.facts
          have hgw := HB2.out.size
          clear hb2 cT cN HB0 HT0
          go_wp2_with fail
          obtain ⟨y0, y1, y2, y3⟩ := (((HT2.out.set0 (a : Int)).set1 ((a : Int) + 1)).set1 1000000).facts
          refine (cD _).mono ?_
          rintro e w3 ⟨rfl, rfl⟩
          go_wp2_with fail
          refine (num2.out _ (((HT2.out.set0 _).set1 _).set1 _) (by repeat (first | exact HB2.out | refine Below.setCell ?_ (by simp) _))).mono ?_
          rintro e w4 ⟨rfl, HT4, HB4⟩
          clear y0 y1 y2 y3 z0 z1 z2 z3
          obtain ⟨z0, z1, z2, z3⟩ := HT4.out.facts
          clear num2 HT2 HB2
          go_wp2_with fail
          refine gen_world (F := fun W => Two W (w.heap.size + 1) (0) (0) ∧ Below w.heap.size w W) _ ⟨(HT4.out.set0 _).set1 _, (by repeat (first | exact HB4.out | refine Below.setCell ?_ (by simp) _))⟩ ?_
          rintro W3 ⟨hT3, hB3⟩
          obtain ⟨k0, k1, _, _⟩ := hT3.facts
          refine bodyPost_ret (v := .tuple #[.agg #[.int .i64 0, .int .i64 0], .bool false, .int .i64 ((n : Int) + (p.length : Int) - (r2.length : Int))]) (by simp [results, Tryz.results58, go_sem, k0, k1]) rfl ?_
          exact read_wrong HQ2.out (by omega) hB3
        · have g1 : ¬ (b : Int) < (a : Int) := by omega
          have g2 : decide ((b : Int) < (a : Int)) = false := decide_eq_false g1
          have hq := HQ3.out
          rw [if_neg hba] at hq
          by_cases hn3 : r3 = []
          · rw [if_pos hn3] at hq
            have HQ2 := Lib.hid hq
            have q2 := empty_yes hn3
            have q3 := empty_yes2 hn3
            clear hq HQ3 hba hn3
            go_enter Tryz.func58, Tryz.ntmps58
            go_wp2_with fail
            refine (cT _).mono ?_
            rintro e w1 ⟨rfl, rfl⟩
            go_wp2_with fail
            refine (cN _).mono ?_
            rintro e w2 ⟨rfl, hb2⟩
            have HB2 := Lib.hid (bt HB0.out hb2)
            have HT2 := Lib.hid (HT0.out.below hb2 HT0.out.lt)
            obtain ⟨z0, z1, z2, z3⟩ := HT2.out.facts
            have hgw := HB2.out.size
            clear hb2 cT cN HB0 HT0
            go_wp2_with fail
            obtain ⟨y0, y1, y2, y3⟩ := (((HT2.out.set0 (a : Int)).set1 ((a : Int) + 1)).set1 1000000).facts
            refine (cD _).mono ?_
            rintro e w3 ⟨rfl, rfl⟩
            go_wp2_with fail
            refine (num2.out _ (((HT2.out.set0 _).set1 _).set1 _) (by repeat (first | exact HB2.out | refine Below.setCell ?_ (by simp) _))).mono ?_
            rintro e w4 ⟨rfl, HT4, HB4⟩
            clear y0 y1 y2 y3 z0 z1 z2 z3
            obtain ⟨z0, z1, z2, z3⟩ := HT4.out.facts
            clear num2 HT2 HB2
            go_wp2_with fail
            refine gen_world (F := fun W => Two W (w.heap.size + 1) (a) ((b : Int) + 1) ∧ Below w.heap.size w W) _ ⟨((HT4.out.set1 _).set0 _).set1 _, (by repeat (first | exact HB4.out | refine Below.setCell ?_ (by simp) _))⟩ ?_
            rintro W3 ⟨hT3, hB3⟩
            obtain ⟨k0, k1, _, _⟩ := hT3.facts
            refine bodyPost_ret (v := .tuple #[.agg #[.int .i64 (a : Int), .int .i64 ((b : Int) + 1)], .bool (!taken), .int .i64 (-1)]) (by simp [results, Tryz.results58, go_sem, k0, k1]) rfl ?_
            exact read_ok HQ2.out hB3
          · rw [if_neg hn3] at hq
            have HQ2 := Lib.hid hq
            have q2 := empty_no hn3
            have q3 := empty_no2 hn3
            clear hq HQ3 hba hn3
            go_enter Tryz.func58, Tryz.ntmps58
            go_wp2_with fail
            refine (cT _).mono ?_
            rintro e w1 ⟨rfl, rfl⟩
            go_wp2_with fail
            refine (cN _).mono ?_
            rintro e w2 ⟨rfl, hb2⟩
            have HB2 := Lib.hid (bt HB0.out hb2)
            have HT2 := Lib.hid (HT0.out.below hb2 HT0.out.lt)
            obtain ⟨z0, z1, z2, z3⟩ := HT2.out.facts
            have hgw := HB2.out.size
            clear hb2 cT cN HB0 HT0
            go_wp2_with fail
            obtain ⟨y0, y1, y2, y3⟩ := (((HT2.out.set0 (a : Int)).set1 ((a : Int) + 1)).set1 1000000).facts
            refine (cD _).mono ?_
            rintro e w3 ⟨rfl, rfl⟩
            go_wp2_with fail
            refine (num2.out _ (((HT2.out.set0 _).set1 _).set1 _) (by repeat (first | exact HB2.out | refine Below.setCell ?_ (by simp) _))).mono ?_
            rintro e w4 ⟨rfl, HT4, HB4⟩
            clear y0 y1 y2 y3 z0 z1 z2 z3
            obtain ⟨z0, z1, z2, z3⟩ := HT4.out.facts
            clear num2 HT2 HB2
            go_wp2_with fail
            refine gen_world (F := fun W => Two W (w.heap.size + 1) (0) (0) ∧ Below w.heap.size w W) _ ⟨((HT4.out.set1 _).set0 _).set1 _, (by repeat (first | exact HB4.out | refine Below.setCell ?_ (by simp) _))⟩ ?_
            rintro W3 ⟨hT3, hB3⟩
            obtain ⟨k0, k1, _, _⟩ := hT3.facts
            refine bodyPost_ret (v := .tuple #[.agg #[.int .i64 0, .int .i64 0], .bool false, .int .i64 ((n : Int) + (p.length : Int) - (r3.length : Int))]) (by simp [results, Tryz.results58, go_sem, k0, k1]) rfl ?_
            exact read_wrong HQ2.out (by omega) hB3
end Go.Proofs.YtbbaaaomncegiaaGreatDoor
