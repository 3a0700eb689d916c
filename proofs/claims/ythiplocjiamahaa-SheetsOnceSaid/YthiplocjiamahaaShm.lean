/-
  The map of places that sheets.Read makes: what it holds when some slots are put in.
-/
import Derived.Test.YthiplocjiamahaaShy
import Derived.Test.YthiplocjiamahaaOpg
import Derived.DeepKeys4
import Derived.Maps.OwnSet
namespace Go.Proofs.Ythiplocjiamahaa
open Go.RowKit Go.Proofs.Shs Go.Maps

theorem rowSpot : (56 : TypeId) < Try.prog.types.size := of_decide_eq_true (by kernel_rfl)
theorem wideSpot : (match Try.prog.underlying 56 with | some (.array _ _) | some (.struct _) => true | _ => false) = true := by rw [Try.underlying56]
theorem spotLaw : Keyed Try.prog 56 := Keyed.of_law (deep_law_laid laidOut_ (m := 2) (by omega) rowSpot (by kernel_rfl) wideSpot)
theorem zeroInt (w : World) : (zeroValue 3).run Try.prog w = .ok (.int .i64 0) w := by kernel_rfl

abbrev Place := Int × Int × Int × Int
def pl (x : Slot) : Place := (x.sheet, x.side, x.row, x.col)
abbrev keyV (p : Place) : Value := .agg #[.int .i64 p.1, .int .i64 p.2.1, .int .i64 p.2.2.1, .int .i64 p.2.2.2]
def keyL (p : Place) : Lit := .string (keyBytes [.int .i64 p.1, .int .i64 p.2.1, .int .i64 p.2.2.1, .int .i64 p.2.2.2])
def wf4 (p : Place) : Prop := (Lit.int .i64 p.1).wf = true ∧ (Lit.int .i64 p.2.1).wf = true ∧ (Lit.int .i64 p.2.2.1).wf = true ∧ (Lit.int .i64 p.2.2.2).wf = true
theorem keyType_spot : Try.prog.keyType 56 = true := by kernel_rfl
theorem cells_spot : Try.prog.cellsOf 56 = 4 := by kernel_rfl
theorem cells_int : Try.prog.cellsOf 3 = 1 := by kernel_rfl
theorem lits_four {P : Program} {k e : TypeId} (hk : P.underlying k = some (.array 4 e)) (he : P.underlying e = some (.int .i64)) (hck : P.cellsOf k = 4) (hce : P.cellsOf e = 1) (m : Nat) {a b c d : Int}
    (ha : (Lit.int .i64 a).wf = true) (hb : (Lit.int .i64 b).wf = true) (hc : (Lit.int .i64 c).wf = true) (hd : (Lit.int .i64 d).wf = true) :
    P.keyLits (m + 2) k [.int .i64 a, .int .i64 b, .int .i64 c, .int .i64 d] = some [.int .i64 a, .int .i64 b, .int .i64 c, .int .i64 d] := by
  have one : ∀ x : Int, (Lit.int .i64 x).wf = true → P.keyLits (m + 1) e [.int .i64 x] = some [.int .i64 x] := fun x hx => by
    simp [Program.keyLits, he, hx]
  unfold Program.keyLits
  rw [hk]
  simp [hck, hce, List.range_succ, one, ha, hb, hc, hd]
theorem keyOf_four {P : Program} {k e : TypeId} (hk : P.underlying k = some (.array 4 e)) (he : P.underlying e = some (.int .i64)) (hck : P.cellsOf k = 4) (hce : P.cellsOf e = 1) (hkt : P.keyType k = true) (hsz : 0 < P.types.size) {a b c d : Int}
    (ha : (Lit.int .i64 a).wf = true) (hb : (Lit.int .i64 b).wf = true) (hc : (Lit.int .i64 c).wf = true) (hd : (Lit.int .i64 d).wf = true) :
    keyOf P k (.agg #[.int .i64 a, .int .i64 b, .int .i64 c, .int .i64 d]) = some (.string (keyBytes [.int .i64 a, .int .i64 b, .int .i64 c, .int .i64 d])) := by
  obtain ⟨m, hm⟩ : ∃ m, P.types.size + 1 = m + 2 := ⟨P.types.size - 1, by omega⟩
  have hl := lits_four hk he hck hce m ha hb hc hd
  unfold keyOf
  rw [hk]
  simp [hkt, Value.formed, hk, hck, Value.cells, hm, hl]
theorem keyOf_spot (p : Place) (h : wf4 p) : keyOf Try.prog 56 (keyV p) = some (keyL p) :=
  keyOf_four Try.underlying56 Try.underlying3 cells_spot cells_int keyType_spot (of_decide_eq_true (by kernel_rfl)) h.1 h.2.1 h.2.2.1 h.2.2.2
theorem keyL_inj {p q : Place} (hp : wf4 p) (hq : wf4 q) (h : keyL p = keyL q) : p = q := by
  have := spotLaw.inj (keyOf_spot p hp) (by rw [h]; exact keyOf_spot q hq)
  obtain ⟨p0, p1, p2, p3⟩ := p
  obtain ⟨q0, q1, q2, q3⟩ := q
  simpa [keyV] using this
theorem key_lit (p : Place) : WideAt.IsKeyLit (keyL p) := trivial

/-- What the map holds when these slots are put in, one behind the other. -/
structure MapInv (l : List Slot) (D : DataW Unit) : Prop where
  tidy : Tidy D
  has_ : ∀ p, wf4 p → has D (keyL p) = decide (p ∈ l.map pl)
  at_ : (l.map pl).Nodup → ∀ x, x ∈ l → D.atKey (keyL (pl x)) (.lit (.int .i64 0)) = .lit (.int .i64 x.page)
  le_ : size D ≤ l.length
  eq_ : size D = l.length ↔ (l.map pl).Nodup

theorem MapInv.start : MapInv [] (.map []) where
  tidy := tidy_empty
  has_ := fun p _ => by simp [has]
  at_ := fun _ x hx => by cases hx
  le_ := Nat.le_refl _
  eq_ := by simp [size]

theorem nodup_snoc {α : Type} {l : List α} {x : α} : (l ++ [x]).Nodup ↔ l.Nodup ∧ x ∉ l := by
  rw [List.nodup_append]
  constructor
  · rintro ⟨h1, _, h2⟩; exact ⟨h1, fun hx => h2 x hx x (by simp) rfl⟩
  · rintro ⟨h1, h2⟩
    refine ⟨h1, by simp, fun a ha b hb e => ?_⟩
    simp at hb
    subst hb; subst e
    exact h2 ha

theorem MapInv.snoc {l : List Slot} {D : DataW Unit} (h : MapInv l D) (hl : ∀ y, y ∈ l → wf4 (pl y)) (x : Slot) (hx : wf4 (pl x)) : MapInv (l ++ [x]) (D.put (keyL (pl x)) (.lit (.int .i64 x.page))) := by
  have hs := size_put (k := keyL (pl x)) h.tidy (.lit (.int .i64 x.page))
  rw [h.has_ _ hx] at hs
  have hm : (l ++ [x]).map pl = l.map pl ++ [pl x] := by simp
  refine ⟨h.tidy.put (key_lit _) _, fun p hp => ?_, fun hn y hy => ?_, ?_, ?_⟩
  · by_cases e : p = pl x
    · subst e
      rw [has_put_same h.tidy.isMap (key_lit _)]
      simp
    · rw [has_put_other (fun e' => e (keyL_inj hp hx e')), h.has_ p hp, hm]
      rw [decide_eq_decide]
      simp [e]
  · rw [hm, nodup_snoc] at hn
    rcases List.mem_append.1 hy with hy | hy
    · have hne : keyL (pl y) ≠ keyL (pl x) := fun e => hn.2 (by
        rw [← keyL_inj (hl y hy) hx e]
        exact List.mem_map_of_mem hy)
      rw [atKey_put_other hne]
      exact h.at_ hn.1 y hy
    · simp at hy
      subst hy
      exact atKey_put_same h.tidy.isMap (key_lit _) _ _
  · rw [hs, List.length_append]
    have := h.le_
    split <;> simp <;> omega
  · rw [hs, hm, nodup_snoc, List.length_append]
    have h1 := h.le_
    have h2 := h.eq_
    by_cases e : pl x ∈ l.map pl
    · simp only [e, decide_true, if_true, not_true_eq_false, and_false, iff_false, List.length_cons, List.length_nil]
      omega
    · simp only [e, decide_false, Bool.false_eq_true, if_false, not_false_eq_true, and_true, List.length_cons, List.length_nil]
      rw [← h2]
      omega

theorem slot_eq {x y : Slot} (h1 : pl x = pl y) (h2 : x.page = y.page) : x = y := by
  obtain ⟨a0, a1, a2, a3, a4⟩ := x
  obtain ⟨b0, b1, b2, b3, b4⟩ := y
  simp only [pl, Prod.mk.injEq] at h1
  simp only at h2
  simp only [Slot.mk.injEq]
  exact ⟨h1.1, h1.2.1, h1.2.2.1, h1.2.2.2, h2⟩

/-- What a look-up tells: whether the slot is among these. -/
theorem MapInv.look {l : List Slot} {D : DataW Unit} (h : MapInv l D) (hn : (l.map pl).Nodup) (x : Slot) (hx : wf4 (pl x)) (c : Int) (hc : D.atKey (keyL (pl x)) (.lit (.int .i64 0)) = .lit (.int .i64 c)) :
    x ∈ l ↔ has D (keyL (pl x)) = true ∧ c = x.page := by
  rw [h.has_ _ hx, decide_eq_true_eq]
  constructor
  · intro hm
    refine ⟨List.mem_map_of_mem hm, ?_⟩
    have := h.at_ hn x hm
    rw [hc] at this
    simpa using this
  · rintro ⟨hm, hp⟩
    obtain ⟨y, hy, e⟩ := List.mem_map.1 hm
    have := h.at_ hn y hy
    rw [e, hc] at this
    have hcy : c = y.page := by simpa using this
    have : x = y := slot_eq e.symm (by rw [← hp, hcy])
    rw [this]; exact hy
end Go.Proofs.Ythiplocjiamahaa
