/-
  ranges.Parse: the choice that a text tells, or where it is wrong; below the heap's size nothing turns.
-/
import Derived.Test.YtbbaaaomncegiaaGreatDoorRgl
import Derived.Test.YtbbaaaomncegiaaGreatDoorRgf
namespace Go.Proofs.YtbbaaaomncegiaaGreatDoor
open Go.RowKit Go.Shelf Go.Proofs.Spn Go.Proofs.Rng Go.Proofs.Prn
attribute [local go_sem] Oper.semAt_some

/-- What Parse returns. -/
def ParseR (s : Bytes) (w : World) (e : Ending) (w' : World) : Prop := ∃ A c, e = .returned (.tuple #[.slice A (parseR s).1.length c, .int .i64 (parseR s).2.1, .int .i64 (parseR s).2.2]) ∧ Spans w' A (parseR s).1 ∧ Below w.heap.size w w'

/-- Between two rounds. -/
structure PJ (w : World) (N : Nat) (s : Bytes) (pre : List Bytes) (rec : Loop) (l : List Sp) (S : Option Addr) (c : Nat) (A : World) : Prop where
  b0 : Blk A N 22 #[.slice S l.length c]
  b1 : Blk A (N + 1) 3 #[.int .i64 0]
  b2 : Blk A (N + 2) 64 #[.int .i64 0]
  df : A.heap[N + 4]? = some (.deferred (some []))
  lp : A.heap[N + 5]? = some (.loop rec)
  sp : Spans A S l
  far : ∀ a, S = some a → N + 13 ≤ a.block
  may : May l
  run : ∀ post, splitR s = pre ++ post → goR post (offR pre) l = parseR s
  below : Below N w A
  sz : N + 6 ≤ A.heap.size
/-- A round has said 'no more'. -/
structure PX (w : World) (N : Nat) (s : Bytes) (rec : Loop) (k : Nat) (A : World) : Prop where
  b0 : Blk A N 22 #[.slice none 0 0]
  b1 : Blk A (N + 1) 3 #[.int .i64 k]
  b2 : Blk A (N + 2) 64 #[.int .i64 1]
  df : A.heap[N + 4]? = some (.deferred (some []))
  lp : A.heap[N + 5]? = some (.loop rec)
  run : parseR s = ([], k, 1)
  below : Below N w A
theorem PJ.grown {w : World} {N : Nat} {s : Bytes} {pre : List Bytes} {rec : Loop} {l : List Sp} {S : Option Addr} {c : Nat} {A A' : World} {row : Option Nat} (h : PJ w N s pre rec l S c A) (hg : A.grownBy A' row) (hr : ∀ r, row = some r → N + 6 ≤ r ∧ r < N + 6 + 7) : PJ w N s pre rec l S c A' := by
  have ne : ∀ k, k < N + 6 → some k ≠ row := fun k hk e => by have := hr k e.symm; omega
  have hz := h.sz
  refine ⟨(hg.block _ h.b0.lt (ne _ (by omega))).trans h.b0, (hg.block _ h.b1.lt (ne _ (by omega))).trans h.b1, (hg.block _ h.b2.lt (ne _ (by omega))).trans h.b2, (hg.block _ (by omega) (ne _ (by omega))).trans h.df, (hg.block _ (by omega) (ne _ (by omega))).trans h.lp,
    h.sp.grown hg (fun a ha e => by have := hr _ e.symm; have := h.far a ha; omega), h.far, h.may, h.run, h.below.grown hg (by omega) (fun k e => by have := hr k e; omega), Nat.le_trans hz hg.size⟩
theorem PX.grown {w : World} {N : Nat} {s : Bytes} {rec : Loop} {k : Nat} {A A' : World} {row : Option Nat} (h : PX w N s rec k A) (hz : N + 6 ≤ A.heap.size) (hg : A.grownBy A' row) (hr : ∀ r, row = some r → N + 6 ≤ r ∧ r < N + 6 + 7) : PX w N s rec k A' := by
  have ne : ∀ k, k < N + 6 → some k ≠ row := fun k hk e => by have := hr k e.symm; omega
  exact ⟨(hg.block _ h.b0.lt (ne _ (by omega))).trans h.b0, (hg.block _ h.b1.lt (ne _ (by omega))).trans h.b1, (hg.block _ h.b2.lt (ne _ (by omega))).trans h.b2, (hg.block _ (by omega) (ne _ (by omega))).trans h.df, (hg.block _ (by omega) (ne _ (by omega))).trans h.lp, h.run, h.below.grown hg (by omega) (fun k e => by have := hr k e; omega)⟩

theorem grown_of_below {A A' : World} (hb : Below A.heap.size A A') : A.grownBy A' none := ⟨hb.os, hb.tape, hb.output, hb.size, fun k hk _ => hb.block k hk⟩
theorem PJ.on {w : World} {N : Nat} {s : Bytes} {pre : List Bytes} {rec : Loop} {l : List Sp} {S : Option Addr} {c : Nat} {A A' : World} (h : PJ w N s pre rec l S c A) (hb : Below A.heap.size A A') : PJ w N s pre rec l S c A' := h.grown (grown_of_below hb) fun r e => by cases e
theorem PJ.put {w : World} {N : Nat} {s : Bytes} {pre : List Bytes} {rec rec' : Loop} {l : List Sp} {S : Option Addr} {c : Nat} {A : World} (h : PJ w N s pre rec l S c A) (rec'' : Loop) (e : rec'' = rec') : PJ w N s pre rec'' l S c (A.putObj (N + 5) (.loop rec')) := by
  subst e
  have hz := h.sz
  refine ⟨(World.putObj_heap_other (by omega)).trans h.b0, (World.putObj_heap_other (by omega)).trans h.b1, (World.putObj_heap_other (by omega)).trans h.b2, (World.putObj_heap_other (by omega)).trans h.df, World.putObj_heap_same (by omega), ?_, h.far, h.may, h.run, h.below.grown (grown_put A _ _) (by omega) (fun k e => by cases e; omega), by rw [World.putObj_size]; exact hz⟩
  exact h.sp.grown (grown_put A (N + 5) _) (fun a ha e => by have := h.far a ha; injection e with e; omega)
theorem KeepB.refl (B : Nat) (A : World) : KeepB B A A := ⟨Nat.le_refl _, fun _ _ _ => rfl⟩
theorem KeepB.grown {B : Nat} {A A' A'' : World} {row : Option Nat} (h : KeepB B A A') (hz : B + 7 ≤ A.heap.size) (hg : A'.grownBy A'' row) (hr : ∀ r, row = some r → r < B ∨ B + 7 ≤ r) : KeepB B A A'' :=
  ⟨Nat.le_trans h.1 hg.size, fun k h1 h2 => (hg.block k (by have := h.1; omega) (fun e => by have := hr k e.symm; omega)).trans (h.2 k h1 h2)⟩
theorem PJ.store {w : World} {N : Nat} {s : Bytes} {pre pre' : List Bytes} {rec : Loop} {l : List Sp} {S : Option Addr} {c : Nat} {A : World} (h : PJ w N s pre rec l S c A) (S' : Option Addr) (c' : Nat) (l' : List Sp) (hsp : Spans A S' l') (hf : ∀ a, S' = some a → N + 13 ≤ a.block) (hm : May l') (hr : ∀ post, splitR s = pre' ++ post → goR post (offR pre') l' = parseR s) : PJ w N s pre' rec l' S' c' (A.setCell ⟨N, 0, none⟩ (.slice S' l'.length c')) := by
  have hz := h.sz
  refine ⟨h.b0.set_ 0 _, (set_other (by simp) _).trans h.b1, (set_other (by simp) _).trans h.b2, (set_other (by simp) _).trans h.df, (set_other (by simp) _).trans h.lp, ?_, hf, hm, hr, h.below.grown (grown_set A N 0 _) (by omega) (fun k e => by cases e; omega), by rw [set_size]; exact hz⟩
  exact hsp.grown (grown_set A N 0 _) (fun a ha e => by have := hf a ha; injection e with e; omega)
theorem PJ.wrong {w : World} {N : Nat} {s : Bytes} {pre : List Bytes} {rec : Loop} {l : List Sp} {S : Option Addr} {c k : Nat} {A : World} {z : Int} (h : PJ w N s pre rec l S c A) (hz : z = (k : Int)) (hp : parseR s = ([], k, 1)) :
    PX w N s rec k (((A.setCell ⟨N, 0, none⟩ (.slice none 0 0)).setCell ⟨N + 1, 0, none⟩ (.int .i64 z)).setCell ⟨N + 1 + 1, 0, none⟩ (.int .i64 1)) := by
  subst hz
  have hs := h.sz
  refine ⟨(set_other (by simp <;> omega) _).trans ((set_other (by simp <;> omega) _).trans (h.b0.set_ 0 _)), (set_other (by simp <;> omega) _).trans ((Blk.set_ ((set_other (by simp <;> omega) _).trans h.b1) 0 _)), Blk.set_ ((set_other (by simp <;> omega) _).trans ((set_other (by simp <;> omega) _).trans h.b2)) 0 _, (set_other (by simp <;> omega) _).trans ((set_other (by simp <;> omega) _).trans ((set_other (by simp <;> omega) _).trans h.df)), (set_other (by simp <;> omega) _).trans ((set_other (by simp <;> omega) _).trans ((set_other (by simp <;> omega) _).trans h.lp)), hp, ?_⟩
  exact ((h.below.setCell (p := ⟨N, 0, none⟩) (Nat.le_refl _) _).setCell (p := ⟨N + 1, 0, none⟩) (Nat.le_succ _) _).setCell (p := ⟨N + 1 + 1, 0, none⟩) (by simp <;> omega) _
theorem PX.put {w : World} {N : Nat} {s : Bytes} {rec rec' : Loop} {k : Nat} {A : World} (h : PX w N s rec k A) (hz : N + 6 ≤ A.heap.size) (rec'' : Loop) (e : rec'' = rec') : PX w N s rec'' k (A.putObj (N + 5) (.loop rec')) := by
  subst e
  exact ⟨(World.putObj_heap_other (by omega)).trans h.b0, (World.putObj_heap_other (by omega)).trans h.b1, (World.putObj_heap_other (by omega)).trans h.b2, (World.putObj_heap_other (by omega)).trans h.df, World.putObj_heap_same (by omega), h.run, h.below.grown (grown_put A _ _) (by have := h.below.size; omega) (fun k e => by cases e; omega)⟩
/-- Behind the loop: the results laid. -/
theorem PJ.last {w : World} {N : Nat} {s : Bytes} {pre : List Bytes} {rec : Loop} {l : List Sp} {S : Option Addr} {c : Nat} {A : World} (h : PJ w N s pre rec l S c A) :
    PJ w N s pre rec l S c (((A.setCell ⟨N, 0, none⟩ (.slice S l.length c)).setCell ⟨N + 1, 0, none⟩ (.int .i64 0)).setCell ⟨N + 2, 0, none⟩ (.int .i64 0)) := by
  have h1 := h.store S c l h.sp h.far h.may h.run
  have hz := h1.sz
  have st : ∀ {A : World} (j : Nat) (u : Value), PJ w N s pre rec l S c A → N + 6 ≤ A.heap.size → 0 < j → j < 3 → (j = 1 → u = .int .i64 0) → (j = 2 → u = .int .i64 0) → PJ w N s pre rec l S c (A.setCell ⟨N + j, 0, none⟩ u) := by
    intro A j u h hz j0 j3 u1 u2
    refine ⟨(set_other (by simp <;> omega) _).trans h.b0, ?_, ?_, (set_other (by simp <;> omega) _).trans h.df, (set_other (by simp <;> omega) _).trans h.lp, ?_, h.far, h.may, h.run, h.below.grown (grown_set A _ 0 _) (by omega) (fun k e => by cases e; omega), by rw [set_size]; exact hz⟩
    · by_cases e : j = 1
      · subst e
        rw [u1 rfl]
        exact h.b1.set_ 0 _
      · exact (set_other (by simp <;> omega) _).trans h.b1
    · by_cases e : j = 2
      · subst e
        rw [u2 rfl]
        exact h.b2.set_ 0 _
      · exact (set_other (by simp <;> omega) _).trans h.b2
    · exact h.sp.grown (grown_set A _ 0 _) (fun a ha e => by have := h.far a ha; injection e with e; omega)
  exact st 2 _ (st 1 _ h1 hz (by omega) (by omega) (fun _ => rfl) (fun e => by omega)) (by rw [set_size]; exact hz) (by omega) (by omega) (fun e => by omega) (fun _ => rfl)
theorem PJ.fin {w : World} {N : Nat} {s : Bytes} {pre : List Bytes} {rec : Loop} {l : List Sp} {S : Option Addr} {c : Nat} {A : World} (h : PJ w N s pre rec l S c A) :
    (A.putObj (N + 4) (.deferred none)).cell? ⟨N, 0, none⟩ = some (.slice S l.length c) ∧ (A.putObj (N + 4) (.deferred none)).cell? ⟨N + 1, 0, none⟩ = some (.int .i64 0) ∧ (A.putObj (N + 4) (.deferred none)).cell? ⟨N + 2, 0, none⟩ = some (.int .i64 0) ∧
      Spans (A.putObj (N + 4) (.deferred none)) S l ∧ Below N w (A.putObj (N + 4) (.deferred none)) := by
  have hz := h.sz
  refine ⟨(World.cell?_of_block (World.putObj_heap_other (k := N) (by omega))).trans (h.b0.cell 0), (World.cell?_of_block (World.putObj_heap_other (k := N + 1) (by omega))).trans (h.b1.cell 0), (World.cell?_of_block (World.putObj_heap_other (k := N + 2) (by omega))).trans (h.b2.cell 0), ?_, h.below.grown (grown_put A _ _) (by omega) (fun k e => by cases e; omega)⟩
  exact h.sp.grown (grown_put A _ _) (fun a ha e => by have := h.far a ha; injection e with e; omega)
theorem go_ok {s : Bytes} {pre : List Bytes} {x : Bytes} {l : List Sp} {sp : Sp} {put : Bool} (run : ∀ post, splitR s = pre ++ post → goR post (offR pre) l = parseR s) (h : readR x = .ok sp put) : ∀ post, splitR s = (pre ++ [x]) ++ post → goR post (offR (pre ++ [x])) (takeR l sp put) = parseR s := by
  intro post hp
  rw [← run (x :: post) (by rw [hp]; simp), goR, h, offR_snoc]
  rfl
theorem go_wrong {s : Bytes} {pre post : List Bytes} {x : Bytes} {l : List Sp} {k : Nat} (run : ∀ post, splitR s = pre ++ post → goR post (offR pre) l = parseR s) (hp : splitR s = pre ++ x :: post) (h : readR x = .wrong k) : parseR s = ([], offR pre + k, 1) := by
  rw [← run (x :: post) hp, goR, h]
theorem PJ.start {w : World} {s : ByteArray} {rec : Loop} (h0 : s.data.toList ≠ []) : PJ w w.heap.size s.data.toList [] rec [] none 0 ((((((w.alloc (.cells #[.slice none 0 0] 22)).alloc (.cells #[.int .i64 0] 3)).alloc (.cells #[.int .i64 0] 64)).alloc (.cells #[.string s] 9)).alloc (.deferred (some []))).alloc (.loop rec)) := by
  constructor
  case b0 => exact (((((Blk.new w _ _).alloc _).alloc _).alloc _).alloc _).alloc _
  case sp => exact Spans.nil _ _
  case far => exact fun a e => by cases e
  case may => exact may_nil
  case run =>
    intro post hp
    unfold parseR
    rw [if_neg h0, hp]
    rfl
  case below => exact bl (bl (bl (bl (bl (bl (Below.refl _ _) _) _) _) _) _) _
  case sz => simp [alloc_heap]
  all_goals
    (try unfold Blk)
    simp only [alloc_heap, Array.getElem?_push, Array.size_push]
    simp
theorem start_s {w : World} {s : ByteArray} {rec : Loop} : Blk ((((((w.alloc (.cells #[.slice none 0 0] 22)).alloc (.cells #[.int .i64 0] 3)).alloc (.cells #[.int .i64 0] 64)).alloc (.cells #[.string s] 9)).alloc (.deferred (some []))).alloc (.loop rec)) (w.heap.size + 3) 9 #[.string s] := by
  unfold Blk
  simp only [alloc_heap, Array.getElem?_push, Array.size_push]
  simp

set_option maxRecDepth 100000 in
set_option maxHeartbeats 8000000 in
theorem parse_in (n : Nat) (s : ByteArray) (m : Int) (w : World) (hs : s.size ≤ 10000000) (h0 : s.data.toList ≠ []) (hm : w.cell? ⟨0, 0, none⟩ = some (.int .i64 m)) :
    CallsIn Fence.wide n Tryz.prog 42 #[.string s] w (ParseR s.data.toList w) := by
  refine callsIn_of_wp_marks Tryz.func42 rfl trivial ?_ rfl
  simp only [Tryz.ntmps42, List.size_toArray, List.length_cons, List.length_nil, Nat.reduceAdd, Nat.reduceSub, Array.replicate_succ, Array.replicate_zero, List.push_toArray, List.append_toArray, List.nil_append, List.cons_append]
  have q0 : (s.toList == []) = false := by rw [ByteArray.toList_eq, beq_eq_false_iff_ne]; exact h0
  have q1 : s.toList.isEmpty = false := by
    rw [ByteArray.toList_eq]
    cases hl : s.data.toList with
    | nil => exact absurd hl h0
    | cons c r => rfl
  gi_wp2
  refine ⟨trivial, (fun h => by cases h), ?_⟩
  refine (callsIn_wide.2 (parts_any s _)).mono ?_
  rintro e w' ⟨rfl, rfl⟩
  gi_wp2
  have eg : ∀ args w, (callFunc 67 args).run Tryz.prog w = .ok (.enter 67 args) w := enters_of Tryz.func67 (by kernel_rfl) rfl
  refine range_outer rfl eg ?_
  intro fn
  generalize hrec : (Loop.mk LoopState.ready none fn _ _ _ _ _) = rec
  simp only [World.size_alloc, Nat.add_assoc, Nat.reduceAdd]
  have hPJ := PJ.start (w := w) (s := s) (rec := rec) h0
  have hs1 : ((((((w.alloc (.cells #[.slice none 0 0] 22)).alloc (.cells #[.int .i64 0] 3)).alloc (.cells #[.int .i64 0] 64)).alloc (.cells #[.string s] 9)).alloc (.deferred (some []))).alloc (.loop rec)).cell? ⟨w.heap.size + 3, 0, none⟩ = some (.string (bs s.data.toList)) := by
    rw [bs_self]
    exact start_s.cell 0
  have hsz : ((((((w.alloc (.cells #[.slice none 0 0] 22)).alloc (.cells #[.int .i64 0] 3)).alloc (.cells #[.int .i64 0] 64)).alloc (.cells #[.string s] 9)).alloc (.deferred (some []))).alloc (.loop rec)).heap.size = w.heap.size + 6 := by simp [alloc_heap]
  generalize ((((((w.alloc (.cells #[.slice none 0 0] 22)).alloc (.cells #[.int .i64 0] 3)).alloc (.cells #[.int .i64 0] 64)).alloc (.cells #[.string s] 9)).alloc (.deferred (some []))).alloc (.loop rec)) = W1 at *
  have hml : ∀ A : World, Below w.heap.size w A → A.cell? ⟨0, 0, none⟩ = some (.int .i64 m) := fun A hb => cell_keep hm hb
  have hs' : s.data.toList.length ≤ 10000000 := by rw [size_list]; exact hs
  refine (callsIn_wide.2 ((callsIn_wide (n := 9)).1 (parts1_in 9 (w.heap.size + 5) (w.heap.size + 3) m s.data.toList hs' W1 (fun pre A => ∃ l S c, PJ w w.heap.size s.data.toList pre rec l S c A)
    (fun A => w.heap.size + 6 ≤ A.heap.size ∧ ∃ k, PX w w.heap.size s.data.toList { rec with state := .done, pending := some .ret } k A) hs1 ?hJ ?hJx ?hJm ?hY ⟨[], none, 0, hPJ⟩))).mono ?_
  case hJ =>
    rintro pre A A' row ⟨l, S, c, hp⟩ hg hr
    rw [hsz] at hr
    exact ⟨l, S, c, hp.grown hg hr⟩
  case hJx =>
    rintro A A' row ⟨hz, k, hp⟩ hg hr
    rw [hsz] at hr
    exact ⟨Nat.le_trans hz hg.size, k, hp.grown hz hg hr⟩
  case hJm =>
    rintro pre A ⟨l, S, c, hp⟩
    exact hml A hp.below
  case hY =>
    rw [hsz]
    rintro pre x post A hsp ⟨l, S, c, hp⟩ hzA
    refine ⟨_, _, _, _, run_yield hp.lp (by rw [← hrec]; rfl), ?_⟩
    have hpl := part_len hsp
    have hp1 := hp.on (bl (Below.refl A.heap.size A) (.cells #[.string (bs x), .int .i64 (offR pre)] 84))
    have hbeg := run_beginRound (P := Tryz.prog) hp1.lp (by rw [← hrec])
    have hp2 := PJ.put hp1 { rec with state := .busy } rfl
    have kb2 := ((KeepB.refl (w.heap.size + 6) A).grown hzA (grown_alloc A (.cells #[.string (bs x), .int .i64 (offR pre)] 84)) (fun r e => by cases e)).grown hzA (grown_put _ (w.heap.size + 5) (.loop { rec with state := .busy })) (fun r e => by cases e; omega)
    have hbx : Blk ((A.alloc (.cells #[.string (bs x), .int .i64 (offR pre)] 84)).putObj (w.heap.size + 5) (.loop { rec with state := .busy })) A.heap.size 84 #[.string (bs x), .int .i64 (offR pre)] := (World.putObj_heap_other (by omega)).trans (Blk.new A _ _)
    generalize (A.alloc (.cells #[.string (bs x), .int .i64 (offR pre)] 84)).putObj (w.heap.size + 5) (.loop { rec with state := .busy }) = A2 at hbeg hp2 kb2 hbx
    obtain ⟨x0, x1⟩ : A2.cell? ⟨A.heap.size, 0, none⟩ = some (.string (bs x)) ∧ A2.cell? ⟨A.heap.size, 1, none⟩ = some (.int .i64 (offR pre)) := ⟨hbx.cell 0, hbx.cell 1⟩
    have HP2 := Lib.hid hp2
    have KB2 := Lib.hid kb2
    have HRUN := Lib.hid hp.run
    have HSP := Lib.hid hsp
    have hrd := read_any x (offR pre) A2 (by omega) (by omega)
    clear hp hp1 hp2 kb2 hbx hPJ hs1 hsp
    refine roundIn_of_wpIn trivial ?_
    subst hrec
    dsimp only
    gi_wp2
    refine ⟨trivial, ?_⟩
    refine (CallsIn.inRound _ (callsIn_wide.2 hrd)).mono ?_
    rintro e A5 hg
    cases hrx : readR x with
    | ok sp put =>
      obtain ⟨s1, s2⟩ := sp
      obtain ⟨hb5, he⟩ := hg
      rw [hrx] at he
      simp only at he
      subst he
      have hp5 := HP2.out.on hb5
      have z0 := fun o => cell_more (hp5.b0.cell 0) o
      have hlc := hp5.may.count
      cases put with
      | true =>
        clear hbeg x0 x1 hrd
        gi_wp2
        refine ⟨trivial, ?_⟩
        refine (CallsIn.inRound _ (callsIn_wide.2 (put_any S c l s1 s2 _ (hp5.sp.below (bl (Below.refl A5.heap.size A5) (.cells #[.int .i64 s1, .int .i64 s2] 24)) ) (by omega)))).mono ?_
        rintro e A7 ⟨S7, c7, rfl, hsp7, hb7, hfar7⟩
        have hp7 := (hp5.on (bl (Below.refl A5.heap.size A5) (.cells #[.int .i64 s1, .int .i64 s2] 24))).on hb7
        have y0 := hp7.b0.cell 0
        have y1 := hp7.b0.frozen 0
        simp only [List.getElem?_toArray, List.getElem?_cons_zero] at y0
        have hm7 := put_may hp5.may (s1, s2)
        have hr7 := go_ok HRUN.out hrx
        have kb7 := (((KB2.out.grown hzA (grown_of_below hb5) (fun r e => by cases e)).grown hzA (grown_alloc A5 (.cells #[.int .i64 s1, .int .i64 s2] 24)) (fun r e => by cases e)).grown hzA (grown_of_below hb7) (fun r e => by cases e))
        have hfar : ∀ a, S7 = some a → w.heap.size + 13 ≤ a.block := fun a ha => by
          have h1 := hfar7 a ha
          have h2 := (KB2.out.grown hzA (grown_of_below hb5) (fun r e => by cases e)).1
          simp at h1
          omega
        clear z0
        gi_wp2
        have hp8 := hp7.store S7 c7 _ hsp7 hfar hm7 hr7
        refine ⟨_, _, run_endRound none hp8.lp, .inl ⟨rfl, ⟨_, S7, c7, hp8.put _ (by simp)⟩, ?_⟩⟩
        exact (kb7.grown hzA (grown_set A7 w.heap.size 0 _) (fun r e => by cases e; omega)).grown hzA (grown_put _ (w.heap.size + 5) _) (fun r e => by cases e; omega)
      | false =>
        clear hbeg x0 x1 hrd
        gi_wp2
        refine ⟨trivial, ?_⟩
        refine (CallsIn.inRound _ (callsIn_wide.2 (take_any S c l s1 s2 _ (hp5.sp.below (bl (Below.refl A5.heap.size A5) (.cells #[.int .i64 s1, .int .i64 s2] 24)) ) (by omega)))).mono ?_
        rintro e A7 ⟨S7, c7, rfl, hsp7, hb7, hfar7⟩
        have hp7 := (hp5.on (bl (Below.refl A5.heap.size A5) (.cells #[.int .i64 s1, .int .i64 s2] 24))).on hb7
        have y0 := hp7.b0.cell 0
        have y1 := hp7.b0.frozen 0
        simp only [List.getElem?_toArray, List.getElem?_cons_zero] at y0
        have hm7 := take_may hp5.may (s1, s2)
        have hr7 := go_ok HRUN.out hrx
        have kb7 := (((KB2.out.grown hzA (grown_of_below hb5) (fun r e => by cases e)).grown hzA (grown_alloc A5 (.cells #[.int .i64 s1, .int .i64 s2] 24)) (fun r e => by cases e)).grown hzA (grown_of_below hb7) (fun r e => by cases e))
        have hfar : ∀ a, S7 = some a → w.heap.size + 13 ≤ a.block := fun a ha => by
          have h1 := hfar7 a ha
          have h2 := (KB2.out.grown hzA (grown_of_below hb5) (fun r e => by cases e)).1
          simp at h1
          omega
        clear z0
        gi_wp2
        have hp8 := hp7.store S7 c7 _ hsp7 hfar hm7 hr7
        refine ⟨_, _, run_endRound none hp8.lp, .inl ⟨rfl, ⟨_, S7, c7, hp8.put _ (by simp)⟩, ?_⟩⟩
        exact (kb7.grown hzA (grown_set A7 w.heap.size 0 _) (fun r e => by cases e; omega)).grown hzA (grown_put _ (w.heap.size + 5) _) (fun r e => by cases e; omega)
    | wrong k =>
      obtain ⟨hb5, he⟩ := hg
      rw [hrx] at he
      simp only at he
      subst he
      have hp5 := HP2.out.on hb5
      have z0 : ∀ o, (A5.alloc o).cell? ⟨w.heap.size, 0, none⟩ = some (.slice S l.length c) := fun o => cell_more (hp5.b0.cell 0) o
      have z1 : ∀ o, (A5.alloc o).cell? ⟨w.heap.size + 1, 0, none⟩ = some (.int .i64 0) := fun o => cell_more (hp5.b1.cell 0) o
      have z2 : ∀ o, (A5.alloc o).cell? ⟨w.heap.size + 1 + 1, 0, none⟩ = some (.int .i64 0) := fun o => cell_more (hp5.b2.cell 0) o
      have y0 : ∀ o, (A5.alloc o).frozen? ⟨w.heap.size, 0, none⟩ = false := fun o => (hp5.b0.alloc o).frozen 0
      have y1 : ∀ o, (A5.alloc o).frozen? ⟨w.heap.size + 1, 0, none⟩ = false := fun o => (hp5.b1.alloc o).frozen 0
      have y2 : ∀ o, (A5.alloc o).frozen? ⟨w.heap.size + 1 + 1, 0, none⟩ = false := fun o => (hp5.b2.alloc o).frozen 0
      have hge : (0 : Int) ≤ (offR pre : Int) + (k : Int) := by omega
      have hpr := go_wrong HRUN.out HSP.out hrx
      have kb6 := (KB2.out.grown hzA (grown_of_below hb5) (fun r e => by cases e)).grown hzA (grown_alloc A5 (.cells #[.int .i64 0, .int .i64 0] 24)) (fun r e => by cases e)
      have hp6 := hp5.on (bl (Below.refl A5.heap.size A5) (.cells #[.int .i64 0, .int .i64 0] 24))
      clear hbeg x0 x1 hrd
      gi_wp2
      have hpx := hp6.wrong (k := offR pre + k) (z := (offR pre : Int) + (k : Int)) (by omega) hpr
      have hz6 := hp6.sz
      refine ⟨_, _, run_endRound (some .ret) hpx.lp, .inr ⟨rfl, ⟨?_, _, hpx.put (by simp only [set_size]; exact hz6) _ (by simp)⟩, ?_⟩⟩
      · rw [World.putObj_size, set_size, set_size, set_size]
        exact hz6
      · exact (((kb6.grown hzA (grown_set _ w.heap.size 0 _) (fun r e => by cases e; omega)).grown hzA (grown_set _ (w.heap.size + 1) 0 _) (fun r e => by cases e; omega)).grown hzA (grown_set _ (w.heap.size + 1 + 1) 0 _) (fun r e => by cases e; omega)).grown hzA (grown_put _ (w.heap.size + 5) _) (fun r e => by cases e; omega)
  rintro e A ⟨⟨v, rfl⟩, ⟨l, S, c, hp⟩ | ⟨hz, k, hp⟩⟩
  · have hlp := hp.lp
    rw [← hrec] at hlp
    refine ⟨_, _, run_endLoop hlp (by simp), ?_⟩
    generalize hA9 : A.putObj (w.heap.size + 5) (.loop _) = A9
    obtain ⟨r9, hp9⟩ : ∃ r9, PJ w w.heap.size s.data.toList (splitR s.data.toList) r9 l S c A9 := ⟨_, by rw [← hA9]; exact hp.put _ rfl⟩
    clear hA9
    have c0 : A9.cell? ⟨w.heap.size, 0, none⟩ = some (.slice S l.length c) := hp9.b0.cell 0
    have c1 : A9.cell? ⟨w.heap.size + 1, 0, none⟩ = some (.int .i64 0) := hp9.b1.cell 0
    have c2 : A9.cell? ⟨w.heap.size + 2, 0, none⟩ = some (.int .i64 0) := hp9.b2.cell 0
    have g0 := hp9.b0.frozen 0
    have g1 := hp9.b1.frozen 0
    have g2 := hp9.b2.frozen 0
    have HP9 := Lib.hid hp9
    clear hp hlp hp9
    dsimp only
    gi_wp2
    have hp10 := HP9.out.last
    refine ⟨by simp, .inl ⟨_, _, rfl, run_takeDeferred hp10.df, ?_⟩⟩
    obtain ⟨k0, k1, k2, k3, k4⟩ := hp10.fin
    refine ⟨.tuple #[.slice S l.length c, .int .i64 0, .int .i64 0], by simp [results, Tryz.results42, go_sem, k0, k1, k2], ?_⟩
    have hr := hp10.run [] (by simp)
    have hpr : parseR s.data.toList = (l, 0, 0) := by rw [← hr]; rfl
    exact ⟨S, c, by rw [hpr]; rfl, by rw [hpr]; exact k3, k4⟩
  · refine ⟨_, _, run_endLoop hp.lp (by simp), ?_⟩
    generalize hA9 : A.putObj (w.heap.size + 5) (.loop _) = A9
    obtain ⟨r9, hp9⟩ : ∃ r9, PX w w.heap.size s.data.toList r9 k A9 := ⟨_, by rw [← hA9]; exact hp.put hz _ rfl⟩
    clear hA9
    gi_wp2
    refine ⟨by simp, .inl ⟨_, _, rfl, run_takeDeferred hp9.df, ?_⟩⟩
    have e0 : (A9.putObj (w.heap.size + 4) (.deferred none)).cell? ⟨w.heap.size, 0, none⟩ = some (.slice none 0 0) := (World.cell?_of_block (World.putObj_heap_other (k := w.heap.size) (by omega))).trans (hp9.b0.cell 0)
    have e1 : (A9.putObj (w.heap.size + 4) (.deferred none)).cell? ⟨w.heap.size + 1, 0, none⟩ = some (.int .i64 k) := (World.cell?_of_block (World.putObj_heap_other (k := w.heap.size + 1) (by omega))).trans (hp9.b1.cell 0)
    have e2 : (A9.putObj (w.heap.size + 4) (.deferred none)).cell? ⟨w.heap.size + 2, 0, none⟩ = some (.int .i64 1) := (World.cell?_of_block (World.putObj_heap_other (k := w.heap.size + 2) (by omega))).trans (hp9.b2.cell 0)
    refine ⟨.tuple #[.slice none 0 0, .int .i64 k, .int .i64 1], by simp [results, Tryz.results42, go_sem, e0, e1, e2], ?_⟩
    have hpr := hp9.run
    exact ⟨none, 0, by rw [hpr]; rfl, by rw [hpr]; exact Spans.nil _ _, hp9.below.grown (grown_put A9 _ _) hp9.below.size (fun k e => by cases e; omega)⟩
end Go.Proofs.YtbbaaaomncegiaaGreatDoor
