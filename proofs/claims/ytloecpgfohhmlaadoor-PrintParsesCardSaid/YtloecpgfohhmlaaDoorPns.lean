/-
  print.Parse at every text of at most 100000 bytes: the pages, 0 and no error; or none, the line and the error. New memory alone.
-/
import Derived.Test.YtloecpgfohhmlaaDoorPnr
namespace Go.Proofs.YtloecpgfohhmlaaDoor
open Go.RowKit Go.Proofs.Prn

def strOf : Value → ByteArray
  | .string s => s
  | _ => ByteArray.empty
def ParseGives (s : Bytes) (w : World) (e : Ending) (w' : World) : Prop :=
  ∃ v : Sl, e = .returned (.tuple #[v.v, .int .i64 (parseP s).2.1, .int .i64 (parseP s).2.2]) ∧ v.n = (parseP s).1.length ∧ PagesAt w' v.A (parseP s).1 ∧ Below w.heap.size w w'
theorem parse_bad {s : Bytes} {n : Nat} {w w' : World} (h : parseP s = ([], n, 1)) (hb : Below w.heap.size w w') : ParseGives s w (.returned (.tuple #[.slice none 0 0, .int .i64 n, .int .i64 1])) w' := by
  refine ⟨Sl.nil, by rw [h]; rfl, by rw [h]; rfl, by rw [h]; exact PagesAt.nil _ _, hb⟩
theorem parse_good {s : Bytes} {w w' : World} {v : Sl} {ps : List Page} (h : parseP s = (ps, 0, 0)) (hv : v.n = ps.length) (hp : PagesAt w' v.A ps) (hb : Below w.heap.size w w') : ParseGives s w (.returned (.tuple #[v.v, .int .i64 0, .int .i64 0])) w' := by
  refine ⟨v, by rw [h]; rfl, by rw [h]; exact hv, by rw [h]; exact hp, hb⟩

theorem Rd.below {w w' : World} {base R last : Nat} {ps : List Page} (h : Rd w base R ps last) (hb : Below w.heap.size w w') : Rd w' base R ps last := by
  obtain ⟨v, rs, hR, hbR, hown, hl, hc⟩ := h
  refine ⟨v, rs, hR.keep hb, hbR, ob hown hb, hl, hc.imp id ?_⟩
  rintro ⟨B, rpre, r, pre, p, e1, e2, h1, h2, h3, h4⟩
  exact ⟨B, rpre, r, pre, p, e1, e2, h1, Nat.le_trans h2 hb.size, h3.kf (.below hb), h4.kf (.below hb)⟩
theorem cut_yes (s' : ByteArray) (t r : Bytes) (m : Int) (W : World) (hs' : s'.data.toList = t ++ 10 :: r) (ht : ∀ c ∈ t, c ≠ 10) (hs : s'.size ≤ 100000) (hm : W.cell? ⟨0, 0, none⟩ = some (.int .i64 m)) :
    Calls Tryd.prog 24 #[.string s', .string ⟨#[10]⟩] W fun e w' => e = .returned (.tuple #[.string (bs t), .string (bs r), .bool true]) ∧ Below W.heap.size W w' := by
  refine (Tryd.strings_Cut s' ⟨#[10]⟩ m W (by omega) hm).mono fun e w' ⟨he, n, hw⟩ => ⟨he.trans ?_, by rw [hw]; exact bdn (Below.refl _ _) n⟩
  have := cut_hit t r 10 ht
  rw [← hs'] at this
  show Ending.returned (.tuple #[.string ⟨(Lib.cut s'.data.toList [10]).1.toArray⟩, .string ⟨(Lib.cut s'.data.toList [10]).2.1.toArray⟩, .bool (Lib.cut s'.data.toList [10]).2.2]) = _
  rw [this]; rfl
theorem cut_no (s' : ByteArray) (m : Int) (W : World) (ht : ∀ c ∈ s'.data.toList, c ≠ 10) (hs : s'.size ≤ 100000) (hm : W.cell? ⟨0, 0, none⟩ = some (.int .i64 m)) :
    Calls Tryd.prog 24 #[.string s', .string ⟨#[10]⟩] W fun e w' => e = .returned (.tuple #[.string s', .string ⟨#[]⟩, .bool false]) ∧ Below W.heap.size W w' := by
  refine (Tryd.strings_Cut s' ⟨#[10]⟩ m W (by omega) hm).mono fun e w' ⟨he, n, hw⟩ => ⟨he.trans ?_, by rw [hw]; exact bdn (Below.refl _ _) n⟩
  have := cut_miss s'.data.toList 10 ht
  show Ending.returned (.tuple #[.string ⟨(Lib.cut s'.data.toList [10]).1.toArray⟩, .string ⟨(Lib.cut s'.data.toList [10]).2.1.toArray⟩, .bool (Lib.cut s'.data.toList [10]).2.2]) = _
  rw [this]

set_option maxHeartbeats 8000000 in
set_option maxRecDepth 100000 in
theorem parse_any (s : ByteArray) (m : Int) (w : World) (hs : s.size ≤ 100000) (hm : w.cell? ⟨0, 0, none⟩ = some (.int .i64 m)) :
    Calls Tryd.prog 13 #[.string s] w (ParseGives s.data.toList w) := by
  have HM := Lib.hid hm
  have hw0 : 0 < w.heap.size := World.block_lt_of_cell? _ _ hm
  clear hm
  go_enter Tryd.func13, Tryd.ntmps13
  go_wp2_with fail
  have hrd : Rd (w.alloc (.cells #[.slice none 0 0, .int .i64 0] 62)) w.heap.size w.heap.size [] 0 := ⟨Sl.nil, [], Blk.new w _ _, Nat.le_refl _, World.ownsRow_nil _ _ _ _, rfl, .inl rfl⟩
  have HRD := Lib.hid hrd
  clear hrd
  go_loopw [0, 3] (fun t l wr => ∃ (s' : ByteArray) (n : Nat) (ps : List Page) (last : Nat), t = .string s' ∧ l = .int .i64 n ∧ s'.size + n ≤ 100000 ∧ Hid (parseP s.data.toList = resume (ps, last) n s'.data.toList) ∧ Hid (Rd wr w.heap.size w.heap.size ps last) ∧ Hid (Small n ps) ∧ w.heap.size ≤ wr.heap.size ∧ Hid (Below w.heap.size w wr))
    (fun t _ _ => (strOf t).size)
  case atStart => exact ⟨s, 0, [], 0, rfl, rfl, by omega, by show _ = _; rfl, HRD.out, Small.nil 0, by simp, bl (Below.refl _ _) _⟩
  case round =>
    obtain ⟨s', n, ps, last, rfl, rfl, hsz, HP, HR, HN, hwz, HB⟩ := hrel
    by_cases h0 : 0 < s'.size
    · obtain ⟨e1, e2⟩ := str_some s' h0
      have hgm : wr.cell? ⟨0, 0, none⟩ = some (.int .i64 m) := (HB.out.cell (p := ⟨0, 0, none⟩) hw0).trans HM.out
      rcases byte_or 10 s'.data.toList with ⟨t, r, hs', ht⟩ | hno
      · have hlen : t.length + r.length + 1 = s'.size := by
          have := congrArg List.length hs'
          rw [size_list] at this
          simp at this
          omega
        have HC := Lib.hid (cut_yes s' t r m wr hs' ht (by omega) hgm)
        have HT := Lib.hid ht
        have HP' : Hid (parseP s.data.toList = resume (ps, last) n (t ++ 10 :: r)) := by
          show _ = _
          rw [HP.out, hs']
        clear hs' ht HP
        go_wp2_with fail
        refine HC.out.mono ?_
        rintro e w1 ⟨rfl, hb1⟩
        have HR1 := Lib.hid (HR.out.below hb1)
        have HB1 := Lib.hid (bt HB.out hb1)
        have hgm1 : w1.cell? ⟨0, 0, none⟩ = some (.int .i64 m) := (hb1.cell (p := ⟨0, 0, none⟩) (Nat.lt_of_lt_of_le hw0 hwz)).trans hgm
        clear hb1 HR HB HC hgm
        go_wp2_with fail
        refine (of_any (bs t) m w1 (by rw [bs_size]; omega) hgm1).mono ?_
        rintro e w2 ⟨rfl, hb2⟩
        rw [bs_list]
        have HR2 := Lib.hid (HR1.out.below hb2)
        have HB2 := Lib.hid (bt HB1.out hb2)
        have hx : ∀ f k, tellP t = .part f k → k < 3 := fun f k h => (tell_part_inv h).1
        have HT2 := Lib.hid (take_any w.heap.size w.heap.size n last ps (tellP t) w2 HR2.out HB2.out.size HN.out (by omega) hx)
        clear hb2 hgm1 HR1 HB1 hx
        go_wp2_with fail
        refine HT2.out.mono ?_
        rintro e w3 ⟨hb3, hnone, hsome⟩
        have HB3 := Lib.hid (HB2.out.trans hb3)
        clear hb3 HT2 HR2 HB2
        cases hk : takeP (ps, last) (tellP t) with
        | none =>
          obtain rfl := hnone hk
          have HE : Hid (parseP s.data.toList = ([], n + 1, 1)) := by
            show _ = _
            rw [HP'.out, resume_none HT.out hk]
          clear hnone hsome hk
          go_wp2_with fail
          go_ret3
          exact parse_bad HE.out HB3.out
        | some st =>
          obtain ⟨rfl, hR3⟩ := hsome st hk
          have HR3 := Lib.hid hR3
          have HN3 := Lib.hid (HN.out.take hk)
          have HE : Hid (parseP s.data.toList = resume (st.1, st.2) (n + 1) (bs r).data.toList) := by
            show _ = _
            rw [HP'.out, resume_some HT.out hk, bs_list]
          have hsz2 : (bs r).size + (n + 1) ≤ 100000 := by rw [bs_size]; omega
          have hms : (bs r).size < s'.size := by rw [bs_size]; omega
          clear hnone hsome hk hR3
          go_wp2_with fail
          go_roundw
          case rel => exact ⟨bs r, n + 1, st.1, st.2, rfl, by go_num, by omega, HE.out, HR3.out, HN3.out, HB3.out.size, HB3.out⟩
          case measure => exact hms
      · have HC := Lib.hid (cut_no s' m wr hno (by omega) hgm)
        have HE : Hid (parseP s.data.toList = ([], n + 1, 1)) := by
          show _ = _
          rw [HP.out, resume_miss _ _ _ hno (by rw [← ByteArray.toList_eq]; exact e1)]
        clear hno hgm HP
        go_wp2_with fail
        refine HC.out.mono ?_
        rintro e w1 ⟨rfl, hb1⟩
        have HB1 := Lib.hid (bt HB.out hb1)
        clear hb1 HC
        go_wp2_with fail
        go_ret3
        exact parse_bad HE.out HB1.out
    · obtain ⟨e1, e2⟩ := str_empty s' (by omega)
      obtain rfl : s' = ByteArray.empty := by
        have h3 : s'.data.toList = [] := by rw [← ByteArray.toList_eq]; exact e1
        rw [← bs_self s', h3]; rfl
      obtain ⟨v, rs, hR, hbR, hown, hl, hc⟩ := HR.out
      have hall := Rd.all hl hc
      obtain ⟨hv, hpg⟩ := pages_of hown hl hall
      have HE : Hid (parseP s.data.toList = (ps, 0, 0)) := by
        show _ = _
        rw [HP.out]; rfl
      have HV := Lib.hid hv
      have HG := Lib.hid hpg
      obtain ⟨c0, c1⟩ := hR.facts2
      clear hv hpg hall hc hl hown hR
      go_wp2_with fail
      go_ret3
      exact parse_good HE.out HV.out HG.out HB.out
end Go.Proofs.YtloecpgfohhmlaaDoor
