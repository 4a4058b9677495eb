/- The chapter's examples; the laws SpreadNames, SpreadRises, SpreadShares. -/
import Derived.Test.YtlcagdidhdkpdaaSpreadLaws
namespace Go.Proofs.Ytlcagdidhdkpdaa.Spr
open Go.RowKit Go.Shelf Go.Proofs.Ytlcagdidhdkpdaa

theorem Rd_new (w : World) (k : IntKind) (t : TypeId) (xs : List Int) : Rd k (w.alloc (.cells (xs.map (Value.int k)).toArray t)) (some ⟨w.heap.size, 0, Option.none⟩) xs := by
  refine .inr ⟨w.heap.size, 0, rfl, by simp, fun i hi => ?_⟩
  rw [Nat.zero_add, cell_of_row _ w.heap.size i _ t (0, 0) (heap_alloc_new w _)]
  simp [hi]
theorem placesL_lit (n f d : Nat) (xs : List Int) (h : (List.range n).map (fun i => ((f + i * d / n : Nat) : Int)) = xs) : placesL n f d = xs := h

/-- Places at numbers that are written out. -/
def AnsL (xs : List Int) (c : Int) (w : World) (e : Ending) (w' : World) : Prop := ∃ a k, e = .returned (.tuple #[.slice a xs.length k, .int .i64 c]) ∧ Rd .i64 w' a xs ∧ Below w.heap.size w w'
theorem Places_is (n f t : Int) (xs : List Int) (c : Int) (w : World) (h : placesV n f t = (xs, c)) : Calls Try.prog 8 #[.int .i64 n, .int .i64 f, .int .i64 t] w fun e w' => AnsL xs c w e w' :=
  (Places_any n f t w).mono fun e w' ⟨v, he, hv, hb⟩ => by
    rw [h] at he hv
    obtain ⟨a, k, rfl, _, hr, _⟩ := owns_arg hv
    exact ⟨a, k, he, hr, hb⟩
theorem Rank_is (n f t y r c : Int) (w : World) (h : rankV n f t y = (r, c)) : Calls Try.prog 13 #[.int .i64 n, .int .i64 f, .int .i64 t, .int .i64 y] w fun e w' => e = .returned (.tuple #[.int .i64 r, .int .i64 c]) ∧ Below w.heap.size w w' := by
  have := Rank_any n f t y w
  rw [h] at this
  exact this
theorem Share_is (n f t p k r c : Int) (w : World) (h : shareV n f t p k = (r, c)) : Calls Try.prog 11 #[.int .i64 n, .int .i64 f, .int .i64 t, .int .i64 p, .int .i64 k] w fun e w' => e = .returned (.tuple #[.int .i64 r, .int .i64 c]) ∧ Below w.heap.size w w' := by
  have := Share_any n f t p k w
  rw [h] at this
  exact this

set_option maxHeartbeats 1000000 in
theorem share_is (n f t p k want : Int) (w : World) (h : shareV n f t p k = (want, 0)) : Calls Try.prog 16 #[.int .i64 n, .int .i64 f, .int .i64 t, .int .i64 p, .int .i64 k, .int .i64 want] w fun e w' => e = .returned (.bool true) ∧ Below w.heap.size w w' := by
  go_enter Try.func16, Try.ntmps16
  go_wp2_with fail
  refine (Share_is n f t p k want 0 w h).mono ?_
  rintro e w' ⟨rfl, hb⟩
  have HB := Lib.hid hb
  clear hb h
  go_wp2
  go_ret
  exact ⟨by simp, HB.out⟩

theorem same_lit (a : Option Addr) (ca : Nat) (xs : List Int) (w w1 : World) (n : Nat) (hr : Rd .i64 w1 a xs) (hb : Below w1.heap.size w1 w) (hl : xs.length ≤ 1000) :
    Calls Try.prog 10 #[.slice a xs.length ca, .slice (some ⟨w.heap.size, 0, Option.none⟩) xs.length xs.length] (w.alloc (.cells (xs.map (Value.int .i64)).toArray 3)) fun e w' => e = .returned (.bool true) ∧ Below w.heap.size w w' := by
  have h0 : Below w.heap.size w (w.alloc (.cells (xs.map (Value.int .i64)).toArray 3)) := (Below.refl _ _).alloc (Nat.le_refl _) _
  have := sameInts_any a _ ca xs.length xs xs _ (hr.mono (bstep hb h0) (Nat.le_refl _)) (Rd_new w .i64 3 xs) (by omega) (by omega)
  rw [decide_eq_true rfl] at this
  exact this.mono fun e w' h => ⟨h.1, bstep h0 h.2⟩

set_option maxRecDepth 100000 in
set_option maxHeartbeats 1000000 in
theorem alive_any (w : World) : Calls Try.prog 15 #[] w fun e w' => e = .returned (.bool true) ∧ Below w.heap.size w w' := by
  go_enter Try.func15, Try.ntmps15
  go_wp2_with fail
  refine (Places_is 3 8 16 [8, 10, 13] 0 w (by decide +kernel)).mono ?_
  rintro e w1 ⟨a1, c1, rfl, hr1, hb1⟩
  have HR1 := Lib.hid hr1
  have HB1 := Lib.hid hb1
  clear hr1 hb1
  go_wp2_with fail
  refine (Rank_is 3 8 16 13 2 0 w1 (by decide +kernel)).mono ?_
  rintro e w2 ⟨rfl, hb2⟩
  have HB2 := Lib.hid (bstep HB1.out hb2)
  have HC2 := Lib.hid hb2
  clear hb2
  go_wp2_with fail
  refine (same_lit a1 c1 [8, 10, 13] w2 w1 0 HR1.out HC2.out (by decide)).mono ?_
  rintro e w3 ⟨rfl, hb3⟩
  have HB3 := Lib.hid (bstep HB2.out hb3)
  clear hb3
  go_wp2_with fail
  refine (share_is 3 8 16 2 0 2 w3 (by decide +kernel)).mono ?_
  rintro e w4 ⟨rfl, hb4⟩
  have HB4 := Lib.hid (bstep HB3.out hb4)
  clear hb4
  go_wp2_with fail
  refine (share_is 3 8 16 2 1 1 w4 (by decide +kernel)).mono ?_
  rintro e w5 ⟨rfl, hb5⟩
  have HB5 := Lib.hid (bstep HB4.out hb5)
  clear hb5
  go_wp2_with fail
  refine (share_is 3 8 16 4 3 0 w5 (by decide +kernel)).mono ?_
  rintro e w6 ⟨rfl, hb6⟩
  have HB6 := Lib.hid (bstep HB5.out hb6)
  clear hb6
  go_wp2
  go_ret
  exact ⟨rfl, HB6.out⟩

set_option maxRecDepth 100000 in
set_option maxHeartbeats 4000000 in
theorem spreadNames (w : World) : Calls Try.prog 5 #[] w fun e w' => e = .returned (.bool true) ∧ Below w.heap.size w w' := by
  go_enter Try.func5, Try.ntmps5
  go_wp2_with fail
  refine (Places_is 4 4 8 [4, 5, 6, 7] 0 w (by decide +kernel)).mono ?_
  rintro e w1 ⟨a1, c1, rfl, hr1, hb1⟩
  have HB1 := Lib.hid (hb1)
  have HC1 := Lib.hid (Below.refl w1.heap.size w1)
  have HR1 := Lib.hid hr1
  clear hb1 hr1
  go_wp2_with fail
  refine (Places_is 0 5 5 [] 0 w1 (by decide +kernel)).mono ?_
  rintro e w2 ⟨a2, c2, rfl, hr2, hb2⟩
  have HB2 := Lib.hid (bstep HB1.out hb2)
  have HC2 := Lib.hid (bstep HC1.out hb2)
  clear hb2 hr2
  go_wp2_with fail
  refine (Places_is 5 4 8 [] 2 w2 (by decide +kernel)).mono ?_
  rintro e w3 ⟨a3, c3, rfl, hr3, hb3⟩
  have HB3 := Lib.hid (bstep HB2.out hb3)
  have HC3 := Lib.hid (bstep HC2.out hb3)
  clear hb3 hr3
  go_wp2_with fail
  refine (Places_is 0 5 4 [] 2 w3 (by decide +kernel)).mono ?_
  rintro e w4 ⟨a4, c4, rfl, hr4, hb4⟩
  have HB4 := Lib.hid (bstep HB3.out hb4)
  have HC4 := Lib.hid (bstep HC3.out hb4)
  clear hb4 hr4
  go_wp2_with fail
  refine (Places_is 0 0 65537 [] 2 w4 (by decide +kernel)).mono ?_
  rintro e w5 ⟨a5, c5, rfl, hr5, hb5⟩
  have HB5 := Lib.hid (bstep HB4.out hb5)
  have HC5 := Lib.hid (bstep HC4.out hb5)
  clear hb5 hr5
  go_wp2_with fail
  refine (Places_is (-1) 0 4 [] 2 w5 (by decide +kernel)).mono ?_
  rintro e w6 ⟨a6, c6, rfl, hr6, hb6⟩
  have HB6 := Lib.hid (bstep HB5.out hb6)
  have HC6 := Lib.hid (bstep HC5.out hb6)
  clear hb6 hr6
  go_wp2_with fail
  refine (Share_is 1 0 8 3 0 0 2 w6 (by decide +kernel)).mono ?_
  rintro e w7 ⟨rfl, hb7⟩
  have HB7 := Lib.hid (bstep HB6.out hb7)
  have HC7 := Lib.hid (bstep HC6.out hb7)
  clear hb7
  go_wp2_with fail
  refine (Share_is 1 0 8 2 2 0 2 w7 (by decide +kernel)).mono ?_
  rintro e w8 ⟨rfl, hb8⟩
  have HB8 := Lib.hid (bstep HB7.out hb8)
  have HC8 := Lib.hid (bstep HC7.out hb8)
  clear hb8
  go_wp2_with fail
  refine (Share_is 1 0 8 0 0 0 2 w8 (by decide +kernel)).mono ?_
  rintro e w9 ⟨rfl, hb9⟩
  have HB9 := Lib.hid (bstep HB8.out hb9)
  have HC9 := Lib.hid (bstep HC8.out hb9)
  clear hb9
  go_wp2_with fail
  refine (Rank_is 1 2 8 1 0 2 w9 (by decide +kernel)).mono ?_
  rintro e w10 ⟨rfl, hb10⟩
  have HB10 := Lib.hid (bstep HB9.out hb10)
  have HC10 := Lib.hid (bstep HC9.out hb10)
  clear hb10
  go_wp2_with fail
  refine (Rank_is 2 2 8 8 2 0 w10 (by decide +kernel)).mono ?_
  rintro e w11 ⟨rfl, hb11⟩
  have HB11 := Lib.hid (bstep HB10.out hb11)
  have HC11 := Lib.hid (bstep HC10.out hb11)
  clear hb11
  go_wp2_with fail
  refine (alive_any w11).mono ?_
  rintro e w12 ⟨rfl, hb12⟩
  have HB12 := Lib.hid (bstep HB11.out hb12)
  have HC12 := Lib.hid (bstep HC11.out hb12)
  clear hb12
  go_wp2_with fail
  refine (same_lit a1 c1 [4, 5, 6, 7] w12 w1 0 HR1.out HC12.out (by decide)).mono ?_
  rintro e w13 ⟨rfl, hb13⟩
  have HB13 := Lib.hid (bstep HB12.out hb13)
  clear hb13
  go_wp2_with fail
  refine (share_is 0 3 3 7 6 0 w13 (by decide +kernel)).mono ?_
  rintro e w14 ⟨rfl, hb14⟩
  have HB14 := Lib.hid (bstep HB13.out hb14)
  clear hb14
  go_wp2
  go_ret
  exact ⟨rfl, HB14.out⟩

end Go.Proofs.Ytlcagdidhdkpdaa.Spr
