/-
  ranges.parts' iterator, walked: the parts of a text, each with the place where it begins; or as far as a round says 'no more'.
-/
import Derived.Test.YtbbaaaomncegiaaGreatDoorRgk
namespace Go.Proofs.YtbbaaaomncegiaaGreatDoor
open Go.RowKit Go.Shelf Go.Proofs.Spn Go.Proofs.Rng Go.Proofs.Prn
attribute [local go_sem] Oper.semAt_some

def offR : List Bytes → Nat
  | [] => 0
  | x :: r => x.length + 1 + offR r
theorem offR_snoc (pre : List Bytes) (x : Bytes) : offR (pre ++ [x]) = offR pre + (x.length + 1) := by
  induction pre with
  | nil => simp [offR]
  | cons y r ih => simp only [List.cons_append, offR, ih]; omega
theorem offR_join (l : List Bytes) (h : l ≠ []) : offR l = (joinR l).length + 1 := by
  induction l with
  | nil => exact absurd rfl h
  | cons x r ih =>
    cases r with
    | nil => rfl
    | cons y r =>
      have := ih (by simp)
      show x.length + 1 + offR (y :: r) = (x ++ 44 :: joinR (y :: r)).length + 1
      rw [this, List.length_append, List.length_cons]
      omega
theorem offR_append (a b : List Bytes) : offR (a ++ b) = offR a + offR b := by
  induction a with
  | nil => simp [offR]
  | cons y r ih => simp only [List.cons_append, offR, ih]; omega
theorem part_len {s : Bytes} {pre post : List Bytes} {x : Bytes} (h : splitR s = pre ++ x :: post) : offR pre + x.length ≤ s.length := by
  have h1 := offR_join (splitR s) (splitR_ne s)
  rw [split_join, h, offR_append] at h1
  simp only [offR] at h1
  omega
theorem round_wide {n n' : Nat} {P : Program} {l : Nat} {f : FuncId} {tmps : Array Value} {assign body : Code} {w : World} {R : Ending → World → Prop} (h : RoundIn Fence.wide n P l f tmps assign body w R) : RoundIn Fence.wide n' P l f tmps assign body w R :=
  ⟨h.1, fun c cs _ => h.2 c cs (room_wide _)⟩
theorem grown_put (W : World) (r : Nat) (o : Obj) : W.grownBy (W.putObj r o) (some r) :=
  ⟨rfl, rfl, rfl, by simp, fun k _ hk => World.putObj_heap_other (fun e => hk (by rw [e]))⟩
theorem grown_set (W : World) (b j : Nat) (u : Value) : W.grownBy (W.setCell ⟨b, j, none⟩ u) (some b) :=
  ⟨rfl, rfl, rfl, by simp [World.setCell], fun k _ hk => Below.heap_setCell W _ u k (fun e => hk (by rw [e]))⟩
theorem grown_alloc (W : World) (o : Obj) : W.grownBy (W.alloc o) none := ⟨rfl, rfl, rfl, by simp, fun k hk _ => Below.heap_alloc W o k hk⟩

/-- The statement 'for .. := range g', outermost, where nothing is fenced off. -/
theorem range_outer {P : Program} {n : Nat} {g : Operand} {ps : Array Tmp} {assign body : Code} {Q : Exit → Act → World → Prop} {a : Act} {w : World} {gf : Nat} {lb : Array Value}
    (hg : a.eval g = .func (.func gf) #[] lb) (eg : ∀ args w, (callFunc gf args).run P w = .ok (.enter gf args) w)
    (h : ∀ fn, CallsIn Fence.wide (n - 1) P gf (#[.func (.yield (w.heap.size + 1)) #[] #[]] ++ lb) ((w.alloc (.deferred (some []))).alloc (.loop { state := .ready, pending := none, fn, tmps := a.tmps, params := ps, assign, body, defers := w.heap.size }))
      (rangePost Fence.wide n P (w.heap.size + 1) Q { a with defers := { target := .collected w.heap.size, args := #[] } :: a.defers })) : (Code.rangeFunc g ps assign body).wpIn Fence.wide n P Q a w := by
  refine wpIn_rangeFunc ?_
  intro fn _
  have h' := h fn
  obtain ⟨W1, hW1⟩ : ∃ W1, (w.alloc (.deferred (some []))).alloc (.loop { state := .ready, pending := none, fn, tmps := a.tmps, params := ps, assign, body, defers := w.heap.size }) = W1 := ⟨_, rfl⟩
  rw [hW1] at h'
  refine ⟨w.heap.size + 1, [{ target := .collected w.heap.size, args := #[] }], W1, { target := .fn (.func gf) lb, args := #[.func (.yield (w.heap.size + 1)) #[] #[]] }, W1, gf,
    #[.func (.yield (w.heap.size + 1)) #[] #[]] ++ lb, W1, ?_, ?_, ?_, ?_, ?_, ?_⟩
  · rw [← hW1]
    exact run_enterLoop_outer _ _ _ _ _
  · simp only [resolve, hg]
    simp [go_sem]
  · intro f' _
    trivial
  · simp [invoke, go_sem, eg]
  · intro hd
    simp [Fence.wide] at hd
  · exact h'

/-- What a round leaves of the iterator's own blocks: all. -/
def KeepB (B : Nat) (A A' : World) : Prop := A.heap.size ≤ A'.heap.size ∧ ∀ k, B ≤ k → k < B + 7 → A'.heap[k]? = A.heap[k]?

theorem frozen_of_block {A A' : World} {b o : Nat} (h : A'.heap[b]? = A.heap[b]?) : A'.frozen? ⟨b, o, none⟩ = A.frozen? ⟨b, o, none⟩ := by simp only [World.frozen?, h]
/-- The iterator's own blocks, between two rounds. -/
structure PB (B L : Nat) (pre : List Bytes) (rec : Loop) (A : World) : Prop where
  y : Blk A B 101 #[.func (.yield L) #[] #[]]
  at_ : Blk A (B + 1) 3 #[.int .i64 (offR pre)]
  s : ∃ v, Blk A (B + 2) 9 #[v]
  sep : Blk A (B + 3) 9 #[.string ⟨#[44]⟩]
  sv : Blk A (B + 4) 3 #[.int .i64 0]
  df : A.heap[B + 5]? = some (.deferred (some []))
  lp : A.heap[B + 6]? = some (.loop rec)
  sz : B + 7 ≤ A.heap.size
theorem PB.keep {B L : Nat} {pre : List Bytes} {rec : Loop} {A A' : World} (h : PB B L pre rec A) (k : KeepB B A A') : PB B L pre rec A' :=
  ⟨(k.2 _ (by omega) (by omega)).trans h.y, (k.2 _ (by omega) (by omega)).trans h.at_, h.s.imp fun v hv => (k.2 _ (by omega) (by omega)).trans hv, (k.2 _ (by omega) (by omega)).trans h.sep, (k.2 _ (by omega) (by omega)).trans h.sv, (k.2 _ (by omega) (by omega)).trans h.df, (k.2 _ (by omega) (by omega)).trans h.lp, Nat.le_trans h.sz k.1⟩
theorem set_other {A : World} {p : Addr} {k : Nat} (hk : k ≠ p.block) (v : Value) : (A.setCell p v).heap[k]? = A.heap[k]? := Below.heap_setCell A p v k hk
theorem set_size {A : World} {p : Addr} (v : Value) : (A.setCell p v).heap.size = A.heap.size := by simp [World.setCell]
theorem PB.set {B L : Nat} {pre : List Bytes} {rec : Loop} {A : World} (h : PB B L pre rec A) (v : Value) : PB B L pre rec (A.setCell ⟨B + 2, 0, none⟩ v) := by
  obtain ⟨u, hu⟩ := h.s
  exact ⟨(set_other (by simp) v).trans h.y, (set_other (by simp) v).trans h.at_, ⟨_, hu.set_ 0 v⟩, (set_other (by simp) v).trans h.sep, (set_other (by simp) v).trans h.sv, (set_other (by simp) v).trans h.df, (set_other (by simp) v).trans h.lp, by rw [set_size]; exact h.sz⟩
theorem PB.step {B L : Nat} {pre pre' : List Bytes} {rec : Loop} {A : World} {z : Int} (h : PB B L pre rec A) (hz : z = (offR pre' : Nat)) : PB B L pre' rec (A.setCell ⟨B + 1, 0, none⟩ (.int .i64 z)) := by
  subst hz
  exact ⟨(set_other (by simp) _).trans h.y, h.at_.set_ 0 _, h.s.imp fun v hv => (set_other (by simp) _).trans hv, (set_other (by simp) _).trans h.sep, (set_other (by simp) _).trans h.sv, (set_other (by simp) _).trans h.df, (set_other (by simp) _).trans h.lp, by rw [set_size]; exact h.sz⟩
theorem PB.put {B L : Nat} {pre : List Bytes} {rec : Loop} {A : World} (h : PB B L pre rec A) (rec' : Loop) : PB B L pre rec' (A.putObj (B + 6) (.loop rec')) :=
  ⟨(World.putObj_heap_other (by omega)).trans h.y, (World.putObj_heap_other (by omega)).trans h.at_, h.s.imp fun v hv => (World.putObj_heap_other (by omega)).trans hv, (World.putObj_heap_other (by omega)).trans h.sep, (World.putObj_heap_other (by omega)).trans h.sv, (World.putObj_heap_other (by omega)).trans h.df, World.putObj_heap_same (by have := h.sz; omega), by rw [World.putObj_size]; exact h.sz⟩
theorem PB.put' {B L : Nat} {pre : List Bytes} {rec rec' rec'' : Loop} {A : World} (h : PB B L pre rec A) (e : rec'' = rec') : PB B L pre rec'' (A.putObj (B + 6) (.loop rec')) := by
  subst e
  exact h.put _
theorem alloc_heap (w : World) (o : Obj) : (w.alloc o).heap = w.heap.push o := rfl
theorem PB.start_s {W : World} {L : Nat} {s : Bytes} {rec : Loop} : Blk (((((((W.alloc (.cells #[.func (.yield L) #[] #[]] 101)).alloc (.cells #[.int .i64 0] 3)).alloc (.cells #[.string (bs s)] 9)).alloc (.cells #[.string ⟨#[44]⟩] 9)).alloc (.cells #[.int .i64 0] 3)).alloc (.deferred (some []))).alloc (.loop rec)) (W.heap.size + 2) 9 #[.string (bs s)] := by
  unfold Blk
  simp only [alloc_heap, Array.getElem?_push, Array.size_push]
  simp
theorem PB.start {W : World} {L : Nat} {s : Bytes} {rec : Loop} : PB W.heap.size L [] rec (((((((W.alloc (.cells #[.func (.yield L) #[] #[]] 101)).alloc (.cells #[.int .i64 0] 3)).alloc (.cells #[.string (bs s)] 9)).alloc (.cells #[.string ⟨#[44]⟩] 9)).alloc (.cells #[.int .i64 0] 3)).alloc (.deferred (some []))).alloc (.loop rec)) := by
  constructor
  case s => exact ⟨_, PB.start_s⟩
  case sz => simp [alloc_heap]
  case y => exact ((((((Blk.new W _ _).alloc _).alloc _).alloc _).alloc _).alloc _).alloc _
  all_goals
    (try unfold Blk)
    simp only [alloc_heap, Array.getElem?_push, Array.size_push]
    simp [offR]

set_option maxRecDepth 100000 in
set_option maxHeartbeats 8000000 in
theorem parts1_in (n L sb : Nat) (m : Int) (s : Bytes) (hs : s.length ≤ 10000000) (W : World) (J : List Bytes → World → Prop) (Jx : World → Prop)
    (hsb : W.cell? ⟨sb, 0, none⟩ = some (.string (bs s)))
    (hJ : ∀ pre A A' row, J pre A → A.grownBy A' row → (∀ r, row = some r → W.heap.size ≤ r ∧ r < W.heap.size + 7) → J pre A')
    (hJx : ∀ A A' row, Jx A → A.grownBy A' row → (∀ r, row = some r → W.heap.size ≤ r ∧ r < W.heap.size + 7) → Jx A')
    (hJm : ∀ pre A, J pre A → A.cell? ⟨0, 0, none⟩ = some (.int .i64 m))
    (hY : ∀ pre x post A, splitR s = pre ++ x :: post → J pre A → W.heap.size + 7 ≤ A.heap.size → YieldAt Fence.wide n Tryz.prog L #[.agg #[.string (bs x), .int .i64 (offR pre)]] A fun e A' =>
      (e = .returned (.bool true) ∧ J (pre ++ [x]) A' ∧ KeepB W.heap.size A A') ∨ (e = .returned (.bool false) ∧ Jx A' ∧ KeepB W.heap.size A A'))
    (h0 : J [] W) :
    CallsIn Fence.wide n Tryz.prog 67 #[.func (.yield L) #[] #[], .pointer (some ⟨sb, 0, none⟩)] W fun e W' => (∃ v, e = .returned v) ∧ (J (splitR s) W' ∨ Jx W') := by
  have hB : sb < W.heap.size := World.block_lt_of_cell? _ _ hsb
  refine callsIn_of_wp_marks Tryz.func67 rfl trivial ?_ rfl
  simp only [Tryz.ntmps67, List.size_toArray, List.length_cons, List.length_nil, Nat.reduceAdd, Nat.reduceSub, Array.replicate_succ, Array.replicate_zero, List.push_toArray, List.append_toArray, List.nil_append, List.cons_append]
  have c0 := cell_more (cell_more hsb (.cells #[.func (.yield L) #[] #[]] 101)) (.cells #[.int .i64 0] 3)
  gi_wp2
  refine ⟨trivial, (fun h => by cases h), ?_⟩
  refine (callsIn_wide.2 (splitSeq_any (bs s) ⟨#[44]⟩ _)).mono ?_
  rintro e w' ⟨rfl, rfl⟩
  gi_wp2
  have eg : ∀ args w, (callFunc 97 args).run Tryz.prog w = .ok (.enter 97 args) w := enters_of Tryz.func97 (by kernel_rfl) rfl
  refine range_outer rfl eg ?_
  intro fn
  clear c0
  generalize hrec : (Loop.mk LoopState.ready none fn _ _ _ _ _) = rec
  simp only [World.size_alloc, Nat.add_assoc, Nat.reduceAdd]
  have hPB := PB.start (W := W) (L := L) (s := s) (rec := rec)
  have hJ1 : J [] (((((((W.alloc (.cells #[.func (.yield L) #[] #[]] 101)).alloc (.cells #[.int .i64 0] 3)).alloc (.cells #[.string (bs s)] 9)).alloc (.cells #[.string ⟨#[44]⟩] 9)).alloc (.cells #[.int .i64 0] 3)).alloc (.deferred (some []))).alloc (.loop rec)) := by
    have st : ∀ A o, J [] A → J [] (A.alloc o) := fun A o h => hJ [] A _ none h (grown_alloc A o) (fun r e => by cases e)
    exact st _ _ (st _ _ (st _ _ (st _ _ (st _ _ (st _ _ (st _ _ h0))))))
  have hs1 : (((((((W.alloc (.cells #[.func (.yield L) #[] #[]] 101)).alloc (.cells #[.int .i64 0] 3)).alloc (.cells #[.string (bs s)] 9)).alloc (.cells #[.string ⟨#[44]⟩] 9)).alloc (.cells #[.int .i64 0] 3)).alloc (.deferred (some []))).alloc (.loop rec)).cell? ⟨W.heap.size + 2, 0, none⟩ = some (.string (bs s)) := by
    exact PB.start_s.cell 0
  have hf1 : (((((((W.alloc (.cells #[.func (.yield L) #[] #[]] 101)).alloc (.cells #[.int .i64 0] 3)).alloc (.cells #[.string (bs s)] 9)).alloc (.cells #[.string ⟨#[44]⟩] 9)).alloc (.cells #[.int .i64 0] 3)).alloc (.deferred (some []))).alloc (.loop rec)).frozen? ⟨W.heap.size + 2, 0, none⟩ = false := PB.start_s.frozen 0
  generalize (((((((W.alloc (.cells #[.func (.yield L) #[] #[]] 101)).alloc (.cells #[.int .i64 0] 3)).alloc (.cells #[.string (bs s)] 9)).alloc (.cells #[.string ⟨#[44]⟩] 9)).alloc (.cells #[.int .i64 0] 3)).alloc (.deferred (some []))).alloc (.loop rec)) = W1 at *
  refine (callsIn_wide.2 ((callsIn_wide (n := 9)).1 (split1_in 9 (W.heap.size + 6) (W.heap.size + 3) (W.heap.size + 2) (W.heap.size + 4) (by omega) m s hs (fun pre A => J pre A ∧ PB W.heap.size L pre rec A)
    (fun A => Jx A ∧ A.heap[W.heap.size + 5]? = some (.deferred (some [])) ∧ A.heap[W.heap.size + 6]? = some (.loop { rec with state := .done, pending := some .ret })) ?hread ?hset ?hY W1 hs1 hf1 ⟨hJ1, hPB⟩))).mono ?_
  case hread =>
    rintro pre A ⟨hj, hp⟩
    exact ⟨hp.sep.cell 0, hp.sv.cell 0, hJm _ _ hj⟩
  case hset =>
    rintro pre A v ⟨hj, hp⟩
    exact ⟨hJ _ _ _ _ hj (grown_set A _ 0 v) (fun r e => by cases e; omega), hp.set v⟩
  case hY =>
    rintro pre x post A hsp ⟨hj, hp⟩
    refine ⟨_, _, _, _, run_yield hp.lp (by rw [← hrec]; rfl), ?_⟩
    have hbeg := run_beginRound (P := Tryz.prog) hp.lp (by rw [← hrec])
    have hp2 := hp.put { rec with state := .busy }
    have hj2 := hJ _ _ _ _ hj (grown_put A (W.heap.size + 6) (.loop { rec with state := .busy })) (fun r e => by cases e; omega)
    obtain ⟨fn2, tm2, as2, bd2, hy, hR⟩ := hY pre x post _ hsp hj2 hp2.sz
    have hA2 : (A.putObj (W.heap.size + 6) (.loop { rec with state := .busy })).heap[W.heap.size + 2]? = A.heap[W.heap.size + 2]? := World.putObj_heap_other (by omega)
    generalize A.putObj (W.heap.size + 6) (.loop { rec with state := .busy }) = A2 at hbeg hp2 hj2 hy hR hA2
    have HA2 := Lib.hid hA2
    clear hA2
    refine roundIn_of_wpIn trivial ?_
    have y0 := hp2.y.cell 0
    have y1 := hp2.at_.cell 0
    simp only [List.getElem?_toArray, List.getElem?_cons_zero] at y0 y1
    have HP2 := Lib.hid hp2
    have HJ2 := Lib.hid hj2
    obtain ⟨rec2, hrec2⟩ : ∃ r : Loop, r = rec := ⟨_, rfl⟩
    have HR2 := Lib.hid hrec2
    clear hj hp hj2 hp2 hJ1 hPB hs1 hf1
    subst hrec
    dsimp only
    gi_wp2
    refine (show RoundIn (Fence.wide.inRound (W.heap.size + 6)) _ _ _ _ _ _ _ _ _ from round_wide hR).mono ?_
    rintro e A3 (⟨rfl, hJ3, hk3⟩ | ⟨rfl, hx3, hk3⟩)
    · have hp3 := HP2.out.keep hk3
      have w1 := hp3.at_.cell 0
      have w2 := hp3.at_.frozen 0
      simp only [List.getElem?_toArray, List.getElem?_cons_zero] at w1
      have hz : (bs x).size = x.length := bs_size x
      have hxl := part_len hsp
      have v1 : wrap64 ((x.length : Int) + 1) = (x.length : Int) + 1 := IntWalk.wrap64_in _ (by omega)
      have v2 : wrap64 ((offR pre : Int) + ((x.length : Int) + 1)) = (offR pre : Int) + ((x.length : Int) + 1) := IntWalk.wrap64_in _ (by omega)
      gi_wp2
      have hp4 := hp3.step (pre' := pre ++ [x]) (z := (offR pre : Int) + ((x.length : Int) + 1)) (by rw [offR_snoc]; omega)
      have hj4 := hJ _ _ _ _ hJ3 (grown_set A3 (W.heap.size + 1) 0 (.int .i64 ((offR pre : Int) + ((x.length : Int) + 1)))) (fun r e => by cases e; omega)
      refine ⟨_, _, run_endRound none hp4.lp, .inl ⟨rfl, ⟨hJ _ _ _ _ hj4 (grown_put _ (W.heap.size + 6) _) (fun r e => by cases e; omega), hp4.put' (by simp)⟩, ?_, ?_⟩⟩
      · exact World.cell?_of_block ((World.putObj_heap_other (k := W.heap.size + 2) (by omega)).trans ((set_other (k := W.heap.size + 2) (by simp) _).trans ((hk3.2 (W.heap.size + 2) (by omega) (by omega)).trans HA2.out)))
      · exact World.frozen?_of_block ((World.putObj_heap_other (k := W.heap.size + 2) (by omega)).trans ((set_other (k := W.heap.size + 2) (by simp) _).trans ((hk3.2 (W.heap.size + 2) (by omega) (by omega)).trans HA2.out)))
    · have hp3 := HP2.out.keep hk3
      gi_wp2
      refine ⟨_, _, run_endRound (some .ret) hp3.lp, .inr ⟨rfl, hJx _ _ _ hx3 (grown_put _ (W.heap.size + 6) _) (fun r e => by cases e; omega), ?_, ?_⟩⟩
      · exact (World.putObj_heap_other (by omega)).trans hp3.df
      · exact ((hp3.put _).lp).trans (by simp)
  · rintro e A ⟨⟨v, rfl⟩, ⟨hj, hp⟩ | ⟨hx, hd, hl⟩⟩
    · have hlp := hp.lp
      rw [← hrec] at hlp
      refine ⟨_, _, run_endLoop hlp (by simp), ?_⟩
      have hdf := fun o => (World.putObj_heap_other (w := A) (r := W.heap.size + 6) (o := o) (by omega : W.heap.size + 5 ≠ W.heap.size + 6)).trans hp.df
      gi_wp2
      refine ⟨by simp, .inl ⟨_, _, rfl, run_takeDeferred (hdf _), ?_⟩⟩
      refine ⟨_, results_none rfl _ _ _, ⟨_, rfl⟩, .inl ?_⟩
      exact hJ _ _ _ _ (hJ _ _ _ _ hj (grown_put A (W.heap.size + 6) _) (fun r e => by cases e; omega)) (grown_put _ (W.heap.size + 5) _) (fun r e => by cases e; omega)
    · have hdf := fun o => (World.putObj_heap_other (w := A) (r := W.heap.size + 6) (o := o) (by omega : W.heap.size + 5 ≠ W.heap.size + 6)).trans hd
      refine ⟨_, _, run_endLoop hl (by simp), ?_⟩
      gi_wp2
      refine ⟨by simp, .inl ⟨_, _, rfl, run_takeDeferred (hdf _), ?_⟩⟩
      refine ⟨_, results_none rfl _ _ _, ⟨_, rfl⟩, .inr ?_⟩
      exact hJx _ _ _ (hJx _ _ _ hx (grown_put A (W.heap.size + 6) _) (fun r e => by cases e; omega)) (grown_put _ (W.heap.size + 5) _) (fun r e => by cases e; omega)
end Go.Proofs.YtbbaaaomncegiaaGreatDoor
