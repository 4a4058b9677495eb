/- The chapter's examples; the law WinNames. -/
import Derived.Test.YtogbkhlbmchjlaaWinLaws
namespace Go.Proofs.Ytogbkhlbmchjlaa.Win
open Go.RowKit Go.Shelf Go.Proofs.Ytogbkhlbmchjlaa Go.Proofs.Ytogbkhlbmchjlaa.Frac

theorem Rd2_new (w : World) (t : TypeId) (P : List (Int × Int)) : Rd2 (w.alloc (.cells (pcells P).toArray t)) (some ⟨w.heap.size, 0, Option.none⟩) P := by
  refine .inr ⟨w.heap.size, 0, rfl, by simp, fun i hi => ?_⟩
  have := pcells_get P i hi
  rw [Nat.zero_add, cell_of_row _ w.heap.size _ _ t (0, 0) (heap_alloc_new w _), cell_of_row _ w.heap.size _ _ t (0, 0) (heap_alloc_new w _)]
  simp only [List.getElem?_toArray]
  exact this
def AnsL (P : List (Int × Int)) (c : Int) (w : World) (e : Ending) (w' : World) : Prop := ∃ a k, e = .returned (.tuple #[.slice a P.length k, .int .i64 c]) ∧ Rd2 w' a P ∧ Below w.heap.size w w'
theorem Path_is (seg size s : Int) (P : List (Int × Int)) (c : Int) (w : World) (h : pathV seg size s = (P, c)) : Calls Try.prog 13 #[.int .i64 seg, .int .i64 size, .int .i64 s] w fun e w' => AnsL P c w e w' :=
  (Path_any seg size s w).mono fun e w' hh => by
    rw [h] at hh
    obtain ⟨a, k, rfl, hr, _, _, hb⟩ := hh.take
    exact ⟨a, k, rfl, hr, hb⟩
theorem Row_is (seg size h : Int) (P : List (Int × Int)) (c : Int) (w : World) (hv : rowV seg size h = (P, c)) : Calls Try.prog 16 #[.int .i64 seg, .int .i64 size, .int .i64 h] w fun e w' => AnsL P c w e w' :=
  (Row_any seg size h w).mono fun e w' hh => by
    rw [hv] at hh
    obtain ⟨a, k, rfl, hr, _, _, hb⟩ := hh.take
    exact ⟨a, k, rfl, hr, hb⟩
theorem High_is (seg size r c : Int) (w : World) (h : highV seg size = (r, c)) : Calls Try.prog 9 #[.int .i64 seg, .int .i64 size] w fun e w' => e = .returned (.tuple #[.int .i64 r, .int .i64 c]) ∧ Below w.heap.size w w' :=
  (High_any seg size w).mono fun e w' ⟨he, hw⟩ => by
    subst hw; rw [h] at he
    exact ⟨he, Below.refl _ _⟩
theorem Meet_is (seg size s t r c : Int) (w : World) (h : meetV seg size s t = (r, c)) : Calls Try.prog 18 #[.int .i64 seg, .int .i64 size, .int .i64 s, .int .i64 t] w fun e w' => e = .returned (.tuple #[.int .i64 r, .int .i64 c]) ∧ Below w.heap.size w w' := by
  have := Meet_any seg size s t w
  rw [h] at this
  exact this
theorem Around_is (seg size h s a b c : Int) (w : World) (hv : aroundV seg size h s = (a, b, c)) : Calls Try.prog 11 #[.int .i64 seg, .int .i64 size, .int .i64 h, .int .i64 s] w fun e w' => e = .returned (.tuple #[.int .i64 a, .int .i64 b, .int .i64 c]) ∧ Below w.heap.size w w' := by
  have := Around_any seg size h s w
  rw [hv] at this
  exact this
theorem same2_lit (a : Option Addr) (ca : Nat) (P : List (Int × Int)) (w w1 : World) (hr : Rd2 w1 a P) (hb : Below w1.heap.size w1 w) (hl : P.length ≤ 1000) :
    Calls Try.prog 15 #[.slice a P.length ca, .slice (some ⟨w.heap.size, 0, Option.none⟩) P.length P.length] (w.alloc (.cells (pcells P).toArray 38)) fun e w' => e = .returned (.bool true) ∧ Below w.heap.size w w' := by
  have h0 : Below w.heap.size w (w.alloc (.cells (pcells P).toArray 38)) := (Below.refl _ _).alloc (Nat.le_refl _) _
  have := sameSelf a _ ca P.length P.length P.length P _ (hr.mono (bstep hb h0) (Nat.le_refl _)) (Rd2_new w 38 P) (by omega) rfl rfl
  exact this.mono fun e w' h => ⟨h.1, bstep h0 h.2⟩

set_option maxRecDepth 100000 in
set_option maxHeartbeats 1000000 in
theorem alive_any (w : World) : Calls Try.prog 20 #[] w fun e w' => e = .returned (.bool true) ∧ Below w.heap.size w w' := by
  go_enter Try.func20, Try.ntmps20
  go_wp2_with fail
  refine (High_is 4 16 2 0 w (by decide +kernel)).mono ?_
  rintro e w1 ⟨rfl, hb1⟩
  have HB1 := Lib.hid (hb1)
  clear hb1
  go_wp2_with fail
  refine (Path_is 4 16 9 [(8, 12), (8, 16), (0, 16)] 0 w1 (by decide +kernel)).mono ?_
  rintro e w2 ⟨a2, c2, rfl, hr2, hb2⟩
  have HB2 := Lib.hid (bstep HB1.out hb2)
  have HR2 := Lib.hid hr2
  clear hb2 hr2
  go_wp2_with fail
  refine (Meet_is 4 16 3 4 1 0 w2 (by decide +kernel)).mono ?_
  rintro e w3 ⟨rfl, hb3⟩
  have HB3 := Lib.hid (bstep HB2.out hb3)
  have HC2_3 := Lib.hid (hb3)
  clear hb3
  go_wp2_with fail
  refine (Meet_is 4 16 7 8 2 0 w3 (by decide +kernel)).mono ?_
  rintro e w4 ⟨rfl, hb4⟩
  have HB4 := Lib.hid (bstep HB3.out hb4)
  have HC2_4 := Lib.hid (bstep HC2_3.out hb4)
  clear hb4
  go_wp2_with fail
  refine (same2_lit a2 c2 [(8, 12), (8, 16), (0, 16)] w4 w2 HR2.out HC2_4.out (by decide)).mono ?_
  rintro e w5 ⟨rfl, hb5⟩
  have HB5 := Lib.hid (bstep HB4.out hb5)
  clear hb5
  go_wp2
  go_ret
  exact ⟨rfl, HB5.out⟩

set_option maxRecDepth 100000 in
set_option maxHeartbeats 4000000 in
theorem winNames (w : World) : Calls Try.prog 8 #[] w fun e w' => e = .returned (.bool true) ∧ Below w.heap.size w w' := by
  go_enter Try.func8, Try.ntmps8
  go_wp2_with fail
  refine (High_is 4 24 0 2 w (by decide +kernel)).mono ?_
  rintro e w1 ⟨rfl, hb1⟩
  have HB1 := Lib.hid (hb1)
  clear hb1
  go_wp2_with fail
  refine (High_is 3 12 0 2 w1 (by decide +kernel)).mono ?_
  rintro e w2 ⟨rfl, hb2⟩
  have HB2 := Lib.hid (bstep HB1.out hb2)
  clear hb2
  go_wp2_with fail
  refine (High_is 64 64 0 0 w2 (by decide +kernel)).mono ?_
  rintro e w3 ⟨rfl, hb3⟩
  have HB3 := Lib.hid (bstep HB2.out hb3)
  clear hb3
  go_wp2_with fail
  refine (Around_is 4 16 3 0 0 0 2 w3 (by decide +kernel)).mono ?_
  rintro e w4 ⟨rfl, hb4⟩
  have HB4 := Lib.hid (bstep HB3.out hb4)
  clear hb4
  go_wp2_with fail
  refine (Around_is 4 16 0 16 0 0 2 w4 (by decide +kernel)).mono ?_
  rintro e w5 ⟨rfl, hb5⟩
  have HB5 := Lib.hid (bstep HB4.out hb5)
  clear hb5
  go_wp2_with fail
  refine (Around_is 4 16 (-1) 0 0 0 2 w5 (by decide +kernel)).mono ?_
  rintro e w6 ⟨rfl, hb6⟩
  have HB6 := Lib.hid (bstep HB5.out hb6)
  clear hb6
  go_wp2_with fail
  refine (Row_is 4 16 1 [(0, 8), (8, 16)] 0 w6 (by decide +kernel)).mono ?_
  rintro e w7 ⟨a7, c7, rfl, hr7, hb7⟩
  have HB7 := Lib.hid (bstep HB6.out hb7)
  have HR7 := Lib.hid hr7
  clear hb7 hr7
  go_wp2_with fail
  refine (Meet_is 4 16 0 (-1) 0 2 w7 (by decide +kernel)).mono ?_
  rintro e w8 ⟨rfl, hb8⟩
  have HB8 := Lib.hid (bstep HB7.out hb8)
  have HC7_8 := Lib.hid (hb8)
  clear hb8
  go_wp2_with fail
  refine (Meet_is 4 16 5 5 0 0 w8 (by decide +kernel)).mono ?_
  rintro e w9 ⟨rfl, hb9⟩
  have HB9 := Lib.hid (bstep HB8.out hb9)
  have HC7_9 := Lib.hid (bstep HC7_8.out hb9)
  clear hb9
  go_wp2_with fail
  refine (alive_any   w9).mono ?_
  rintro e w10 ⟨rfl, hb10⟩
  have HB10 := Lib.hid (bstep HB9.out hb10)
  have HC7_10 := Lib.hid (bstep HC7_9.out hb10)
  clear hb10
  go_wp2_with fail
  refine (same2_lit a7 c7 [(0, 8), (8, 16)] w10 w7 HR7.out HC7_10.out (by decide)).mono ?_
  rintro e w11 ⟨rfl, hb11⟩
  have HB11 := Lib.hid (bstep HB10.out hb11)
  clear hb11
  go_wp2
  go_ret
  exact ⟨rfl, HB11.out⟩

end Go.Proofs.Ytogbkhlbmchjlaa.Win
