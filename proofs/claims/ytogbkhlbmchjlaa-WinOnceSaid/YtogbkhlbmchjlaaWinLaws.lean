/- The laws of win that compare with the document: walks. -/
import Derived.Test.YtogbkhlbmchjlaaWin8
import Derived.Test.YtogbkhlbmchjlaaOpen
namespace Go.Proofs.Ytogbkhlbmchjlaa.Win
open Go.RowKit Go.Shelf Go.Proofs.Ytogbkhlbmchjlaa Go.Proofs.Ytogbkhlbmchjlaa.Frac

theorem path_len (seg size s : Int) : (pathV seg size s).1.length ≤ 1000 := by
  by_cases h : okB seg size = true ∧ inR size s = true
  · obtain ⟨a, c, s', h1, h2, h3, q1, q2, q3, h4, h5⟩ := path_V h
    rw [h5]; show (upto _ _).length ≤ _
    rw [upto_length]; omega
  · rw [show pathV seg size s = ([], 2) from if_neg h]; exact Nat.zero_le _
theorem row_len (seg size h : Int) : (rowV seg size h).1.length ≤ 65536 := by
  by_cases hh : hOk seg size h
  · obtain ⟨a, c, h', h1, h2, h3, q1, q2, q3, h4, h5⟩ := row_V hh
    rw [h5]; show (upto _ _).length ≤ _
    rw [upto_length]
    exact Nat.le_trans (Nat.pow_le_pow_right (by decide) (show c - h' ≤ 16 by omega)) (by decide)
  · rw [show rowV seg size h = ([], 2) from if_neg hh]; exact Nat.zero_le _
/-- Where a list of pairs is given, as a caller takes it. -/
theorem AnsP.take {V : List (Int × Int) × Int} {w : World} {e : Ending} {w' : World} (h : AnsP V w e w') :
    ∃ a cap, e = .returned (.tuple #[.slice a V.1.length cap, .int .i64 V.2]) ∧ Rd2 w' a V.1 ∧ V.1.length ≤ cap ∧ cap ≤ maxLen ∧ Below w.heap.size w w' := by
  obtain ⟨v, rfl, hv, hb⟩ := h
  obtain ⟨a, cap, rfl, _, hr, hl, _, hm⟩ := owns2_arg hv
  exact ⟨a, cap, rfl, hr, hl, hm, hb⟩
theorem cell2 {w w1 : World} {f t : Value} {ty : TypeId} (h : Below (w.alloc (.cells #[f, t] ty)).heap.size (w.alloc (.cells #[f, t] ty)) w1) : w1.cell? ⟨w.heap.size, 0, Option.none⟩ = some f ∧ w1.cell? ⟨w.heap.size, 1, Option.none⟩ = some t := by
  constructor
  · rw [h.cell (p := ⟨w.heap.size, 0, Option.none⟩) (by simp), cell_of_row _ w.heap.size 0 _ ty (0, 0) (heap_alloc_new w _)]; rfl
  · rw [h.cell (p := ⟨w.heap.size, 1, Option.none⟩) (by simp), cell_of_row _ w.heap.size 1 _ ty (0, 0) (heap_alloc_new w _)]; rfl
theorem cell3 {w w1 w2 : World} {f t : Value} (h : w1.cell? ⟨w.heap.size, 0, Option.none⟩ = some f ∧ w1.cell? ⟨w.heap.size, 1, Option.none⟩ = some t) (hb : Below w1.heap.size w1 w2) (hz : w.heap.size < w1.heap.size) : w2.cell? ⟨w.heap.size, 0, Option.none⟩ = some f ∧ w2.cell? ⟨w.heap.size, 1, Option.none⟩ = some t :=
  ⟨(hb.cell (p := ⟨w.heap.size, 0, Option.none⟩) hz).trans h.1, (hb.cell (p := ⟨w.heap.size, 1, Option.none⟩) hz).trans h.2⟩
/-- Of two lists that are one: the document's comparison. -/
theorem sameSelf (a b : Option Addr) (ca cb n m : Nat) (xs : List (Int × Int)) (w : World) (hr : Rd2 w a xs) (hs : Rd2 w b xs) (hl : xs.length ≤ 1000000) (hn : n = xs.length) (hm : m = xs.length) :
    Calls Try.prog 15 #[.slice a n ca, .slice b m cb] w fun e w' => e = .returned (.bool true) ∧ Below w.heap.size w w' := by
  subst hn; subst hm
  have := sameAll_any a b ca cb xs xs w hr hs hl hl
  rw [decide_eq_true rfl] at this
  exact this

set_option maxRecDepth 100000 in
set_option maxHeartbeats 4000000 in
theorem winTells (seg size h at' : Int) (w1 : (Lit.int .i64 seg).wf = true) (w2 : (Lit.int .i64 size).wf = true) (w3 : (Lit.int .i64 h).wf = true) (w4 : (Lit.int .i64 at').wf = true) (w : World) :
    Calls Try.prog 3 #[.int .i64 seg, .int .i64 size, .int .i64 h, .int .i64 at'] w fun e w' => e = .returned (.bool true) ∧ Below w.heap.size w w' := by
  clear w1 w2 w3 w4
  have hpl := path_len seg size at'
  have HP1 := Lib.hid (fun w => Path_any seg size at' w)
  have HP2 := Lib.hid (fun w => refPath_any seg size at' w)
  have HH1 := Lib.hid (fun w => High_any seg size w)
  have HH2 := Lib.hid (fun w => refHigh_any seg size w)
  have HA1 := Lib.hid (fun w => Around_any seg size h at' w)
  have HA2 := Lib.hid (fun w => refAround_any seg size h at' w)
  generalize pathV seg size at' = P at *
  generalize highV seg size = H at *
  generalize aroundV seg size h at' = A at *
  obtain ⟨p1, p2⟩ := P
  obtain ⟨h1, h2⟩ := H
  obtain ⟨a1, a2, a3⟩ := A
  dsimp only at *
  go_enter Try.func3, Try.ntmps3
  go_wp2_with fail
  refine (HH1.out _).mono ?_
  rintro e w1 ⟨rfl, rfl⟩
  go_wp2_with fail
  refine (HH2.out _).mono ?_
  rintro e w1 ⟨rfl, rfl⟩
  go_wp2_with fail
  refine (HA1.out _).mono ?_
  rintro e w1 ⟨rfl, hb1⟩
  have HB1 := Lib.hid hb1
  clear hb1
  go_wp2_with fail
  refine (HA2.out _).mono ?_
  rintro e w2 ⟨rfl, rfl⟩
  go_wp2_with fail
  refine (HP1.out _).mono ?_
  intro e w2 hh
  obtain ⟨x1, c1, rfl, hr1, hl1, hm1, hb2⟩ := hh.take
  have HR1 := Lib.hid hr1
  have HB2 := Lib.hid (bstep HB1.out hb2)
  clear hh hr1 hb2
  dsimp only at *
  go_wp2_with fail
  refine (HP2.out _).mono ?_
  intro e w3 hh
  obtain ⟨x2, c2, rfl, hr2, hl2, hm2, hb3⟩ := hh.take
  have HR1 := Lib.hid (HR1.out.mono hb3 (Nat.le_refl _))
  have HR2 := Lib.hid hr2
  have HB3 := Lib.hid (bstep HB2.out hb3)
  clear hh hr2 hb3
  unfold maxLen at hm1 hm2
  dsimp only at *
  go_wp2_with fail
  refine (sameSelf x1 x2 c1 c2 _ _ p1 w3 HR1.out HR2.out (by omega) rfl rfl).mono ?_
  rintro e w4 ⟨rfl, hb4⟩
  have HB4 := Lib.hid (bstep HB3.out hb4)
  clear hb4
  go_wp2
  go_ret
  exact ⟨by simp, HB4.out⟩

set_option maxRecDepth 100000 in
set_option maxHeartbeats 4000000 in
theorem winRows (seg size h s t : Int) (w1 : (Lit.int .i64 seg).wf = true) (w2 : (Lit.int .i64 size).wf = true) (w3 : (Lit.int .i64 h).wf = true) (w4 : (Lit.int .i64 s).wf = true) (w5 : (Lit.int .i64 t).wf = true) (w : World) :
    Calls Try.prog 4 #[.int .i64 seg, .int .i64 size, .int .i64 h, .agg #[.int .i64 s, .int .i64 t]] w fun e w' => e = .returned (.bool true) ∧ Below w.heap.size w w' := by
  clear w1 w2 w3 w4 w5
  have hb0 : Below w.heap.size w (w.alloc (.cells #[.int .i64 s, .int .i64 t] 38)) := (Below.refl _ w).alloc (Nat.le_refl _) _
  by_cases hl : 4096 < size ∧ size ≤ 65536
  · obtain ⟨h1, h2⟩ := hl
    go_enter Try.func4, Try.ntmps4
    go_wp2
    go_ret
    exact ⟨rfl, hb0⟩
  have hpl := row_len seg size h
  have HP1 := Lib.hid (fun w => Row_any seg size h w)
  have HP2 := Lib.hid (fun w => refRow_any seg size h w)
  have HM1 := Lib.hid (fun w => Meet_any seg size s t w)
  have HM2 := Lib.hid (fun w => refMeet_any seg size s t w)
  generalize rowV seg size h = P at *
  generalize meetV seg size s t = M at *
  obtain ⟨p1, p2⟩ := P
  obtain ⟨m1, m2⟩ := M
  dsimp only at *
  have step : ∀ (hx : (¬ 4096 < size) ∨ (4096 < size ∧ ¬ size ≤ 65536)), Calls Try.prog 4 #[.int .i64 seg, .int .i64 size, .int .i64 h, .agg #[.int .i64 s, .int .i64 t]] w fun e w' => e = .returned (.bool true) ∧ Below w.heap.size w w' := by
    intro hx
    clear hl
    rcases hx with hx | ⟨hx, hx2⟩
    all_goals
      go_enter Try.func4, Try.ntmps4
      go_wp2_with fail
      refine (HP1.out _).mono ?_
      intro e w2 hh
      obtain ⟨x1, c1, rfl, hr1, hl1, hm1, hb2⟩ := hh.take
      have HR1 := Lib.hid hr1
      have hc1 := cell2 hb2
      have HB2 := Lib.hid (bstep hb0 hb2)
      have hz2 : w.heap.size < w2.heap.size := by have := hb2.size; simp at this; omega
      clear hh hr1 hb2
      dsimp only at *
      go_wp2_with fail
      refine (HP2.out _).mono ?_
      intro e w3 hh
      obtain ⟨x2, c2, rfl, hr2, hl2, hm2, hb3⟩ := hh.take
      have hc2 := cell3 hc1 hb3 hz2
      have HR1 := Lib.hid (HR1.out.mono hb3 (Nat.le_refl _))
      have HR2 := Lib.hid hr2
      have HB3 := Lib.hid (bstep HB2.out hb3)
      have hz3 : w.heap.size < w3.heap.size := Nat.lt_of_lt_of_le hz2 hb3.size
      clear hh hr2 hb3 hc1 hz2
      unfold maxLen at hm1 hm2
      dsimp only at *
      go_wp2_with fail
      refine (HM1.out _).mono ?_
      rintro e w4 ⟨rfl, hb4⟩
      have hc3 := cell3 hc2 hb4 hz3
      have HR1 := Lib.hid (HR1.out.mono hb4 (Nat.le_refl _))
      have HR2 := Lib.hid (HR2.out.mono hb4 (Nat.le_refl _))
      have HB4 := Lib.hid (bstep HB3.out hb4)
      clear hb4 hc2 hz3
      go_wp2_with fail
      refine (HM2.out _).mono ?_
      rintro e w5 ⟨rfl, rfl⟩
      go_wp2_with fail
      refine (sameSelf x1 x2 c1 c2 _ _ p1 w4 HR1.out HR2.out (by omega) rfl rfl).mono ?_
      rintro e w6 ⟨rfl, hb6⟩
      have HB6 := Lib.hid (bstep HB4.out hb6)
      clear hb6 hc3
      go_wp2
      go_ret
      exact ⟨by simp, HB6.out⟩
  by_cases h5 : 4096 < size
  · exact step (.inr ⟨h5, fun g => hl ⟨h5, g⟩⟩)
  · exact step (.inl h5)

end Go.Proofs.Ytogbkhlbmchjlaa.Win
