/- The laws of spread that compare with the document: walks. -/
import Derived.Test.YtlcagdidhdkpdaaSpread6
import Derived.Test.YtlcagdidhdkpdaaOpen
namespace Go.Proofs.Ytlcagdidhdkpdaa.Spr
open Go.RowKit Go.Shelf Go.Proofs.Ytlcagdidhdkpdaa

set_option maxRecDepth 100000 in
set_option maxHeartbeats 4000000 in
theorem spreadTells (n f t : Int) (wn : (Lit.int .i64 n).wf = true) (wf : (Lit.int .i64 f).wf = true) (wt : (Lit.int .i64 t).wf = true) (w : World) :
    Calls Try.prog 3 #[.int .i64 n, .int .i64 f, .int .i64 t] w fun e w' => e = .returned (.bool true) ∧ Below w.heap.size w w' := by
  clear wn wf wt
  by_cases hl : 5000 < n ∧ n ≤ 65536
  · obtain ⟨h1, h2⟩ := hl
    go_enter Try.func3, Try.ntmps3
    go_wp2
    go_ret
    exact ⟨rfl, Below.refl _ _⟩
  have step : ∀ (hx : (¬ 5000 < n) ∨ (5000 < n ∧ ¬ n ≤ 65536)), Calls Try.prog 3 #[.int .i64 n, .int .i64 f, .int .i64 t] w fun e w' => e = .returned (.bool true) ∧ Below w.heap.size w w' := by
    intro hx
    clear hl
    rcases hx with hx | ⟨hx, hx2⟩
    all_goals
      go_enter Try.func3, Try.ntmps3
      go_wp2_with fail
      refine (Places_any n f t w).mono ?_
      rintro e w1 ⟨v1, rfl, hv1, hb1⟩
      have HV := Lib.hid hv1
      have HB := Lib.hid hb1
      clear hv1 hb1
      go_wp2_with fail
      refine (refPlaces_any n f t w1).mono ?_
      rintro e w2 ⟨v2, rfl, hv2, hb2⟩
      generalize placesV n f t = V at *
      obtain ⟨xs, c⟩ := V
      dsimp only at *
      obtain ⟨a1, c1, rfl, _, hr1, hl1, _, hm1⟩ := owns_arg HV.out
      obtain ⟨a2, c2, rfl, _, hr2, hl2, _, hm2⟩ := owns_arg hv2
      have hr1' := hr1.mono hb2 (Nat.le_refl _)
      have HB2 := Lib.hid (bstep HB.out hb2)
      unfold maxLen at hm1 hm2
      clear hv2 hb2 hr1 HV
      go_wp2_with fail
      refine (sameInts_any a1 a2 c1 c2 xs xs w2 hr1' hr2 (by omega) (by omega)).mono ?_
      rintro e w3 ⟨rfl, hb3⟩
      have HB3 := Lib.hid (bstep HB2.out hb3)
      clear hb3 hr1' hr2
      go_wp2
      go_ret
      exact ⟨by simp, HB3.out⟩
  by_cases h5 : 5000 < n
  · exact step (.inr ⟨h5, fun g => hl ⟨h5, g⟩⟩)
  · exact step (.inl h5)

theorem cell2 {w w1 : World} {f t : Value} {ty : TypeId} (h : Below (w.alloc (.cells #[f, t] ty)).heap.size (w.alloc (.cells #[f, t] ty)) w1) : w1.cell? ⟨w.heap.size, 0, Option.none⟩ = some f ∧ w1.cell? ⟨w.heap.size, 1, Option.none⟩ = some t := by
  constructor
  · rw [h.cell (p := ⟨w.heap.size, 0, Option.none⟩) (by simp), cell_of_row _ w.heap.size 0 _ ty (0, 0) (heap_alloc_new w _)]; rfl
  · rw [h.cell (p := ⟨w.heap.size, 1, Option.none⟩) (by simp), cell_of_row _ w.heap.size 1 _ ty (0, 0) (heap_alloc_new w _)]; rfl
theorem cell3 {w w1 w2 : World} {f t : Value} (h : w1.cell? ⟨w.heap.size, 0, Option.none⟩ = some f ∧ w1.cell? ⟨w.heap.size, 1, Option.none⟩ = some t) (hb : Below w1.heap.size w1 w2) (hz : w.heap.size < w1.heap.size) : w2.cell? ⟨w.heap.size, 0, Option.none⟩ = some f ∧ w2.cell? ⟨w.heap.size, 1, Option.none⟩ = some t :=
  ⟨(hb.cell (p := ⟨w.heap.size, 0, Option.none⟩) hz).trans h.1, (hb.cell (p := ⟨w.heap.size, 1, Option.none⟩) hz).trans h.2⟩

set_option maxRecDepth 100000 in
set_option maxHeartbeats 4000000 in
theorem spreadAsks (n f t p k : Int) (wn : (Lit.int .i64 n).wf = true) (wf : (Lit.int .i64 f).wf = true) (wt : (Lit.int .i64 t).wf = true) (wp : (Lit.int .i64 p).wf = true) (wk : (Lit.int .i64 k).wf = true) (w : World) :
    Calls Try.prog 4 #[.int .i64 n, .agg #[.int .i64 f, .int .i64 t], .int .i64 p, .int .i64 k] w fun e w' => e = .returned (.bool true) ∧ Below w.heap.size w w' := by
  clear wn wf wt wp wk
  have hb0 : Below w.heap.size w (w.alloc (.cells #[.int .i64 f, .int .i64 t] 30)) := (Below.refl _ w).alloc (Nat.le_refl _) _
  by_cases hl : 5000 < n ∧ n ≤ 65536
  · obtain ⟨h1, h2⟩ := hl
    go_enter Try.func4, Try.ntmps4
    go_wp2
    go_ret
    exact ⟨rfl, hb0⟩
  have step : ∀ (hx : (¬ 5000 < n) ∨ (5000 < n ∧ ¬ n ≤ 65536)), Calls Try.prog 4 #[.int .i64 n, .agg #[.int .i64 f, .int .i64 t], .int .i64 p, .int .i64 k] w fun e w' => e = .returned (.bool true) ∧ Below w.heap.size w w' := by
    intro hx
    clear hl
    rcases hx with hx | ⟨hx, hx2⟩
    all_goals
      go_enter Try.func4, Try.ntmps4
      go_wp2_with fail
      refine (Share_any n f t p k _).mono ?_
      rintro e w1 ⟨rfl, hb1⟩
      have hc1 := cell2 hb1
      have HB1 := Lib.hid (bstep hb0 hb1)
      have hz1 : w.heap.size < w1.heap.size := by have := hb1.size; simp at this; omega
      clear hb1
      go_wp2_with fail
      refine (refShare_any n f t p k _).mono ?_
      rintro e w2 ⟨rfl, hb2⟩
      have hc2 := cell3 hc1 hb2 hz1
      have HB2 := Lib.hid (bstep HB1.out hb2)
      have hz2 : w.heap.size < w2.heap.size := Nat.lt_of_lt_of_le hz1 hb2.size
      clear hb2 hc1 hz1
      go_wp2_with fail
      refine (Rank_any n f t k _).mono ?_
      rintro e w3 ⟨rfl, hb3⟩
      have hc3 := cell3 hc2 hb3 hz2
      have HB3 := Lib.hid (bstep HB2.out hb3)
      have hz3 : w.heap.size < w3.heap.size := Nat.lt_of_lt_of_le hz2 hb3.size
      clear hb3 hc2 hz2
      go_wp2_with fail
      refine (refRank_any n f t k _).mono ?_
      rintro e w4 ⟨rfl, hb4⟩
      have HB4 := Lib.hid (bstep HB3.out hb4)
      clear hb4 hc3 hz3
      generalize (shareV n f t p k).1 = s1 at *
      generalize (shareV n f t p k).2 = s2 at *
      generalize (rankV n f t k).1 = r1 at *
      generalize (rankV n f t k).2 = r2 at *
      go_wp2
      go_ret
      exact ⟨by simp, HB4.out⟩
  by_cases h5 : 5000 < n
  · exact step (.inr ⟨h5, fun g => hl ⟨h5, g⟩⟩)
  · exact step (.inl h5)

end Go.Proofs.Ytlcagdidhdkpdaa.Spr
