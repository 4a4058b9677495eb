/- The law OccNames: a walk. -/
import Derived.Test.YtnfjabohnjbgbaaDoorOccLaws3
namespace Go.Proofs.YtnfjabohnjbgbaaDoor.Occ
open Go.RowKit Go.Shelf Go.Proofs.YtnfjabohnjbgbaaDoor

set_option maxRecDepth 100000 in
set_option maxHeartbeats 8000000 in
theorem occNames (w : World) (hT : Tab w) : Calls Tryd.prog 7 #[] w fun e w' => e = .returned (.bool true) ∧ Below w.heap.size w w' := by
  have HU : Hid (U64 [9223372036854775808, 1]) := Lib.hid (by intro z hz; simp at hz; omega)
  have q0 : Hid (cntV [9223372036854775808, 1] 65 0 65 = (2, 0)) := Lib.hid (by decide +kernel)
  have q1 : Hid (nextV [9223372036854775808, 1] 65 64 = (64, 0)) := Lib.hid (by decide +kernel)
  have q2 : Hid (lastV [9223372036854775808, 1] 65 64 = (63, 0)) := Lib.hid (by decide +kernel)
  have q3 : Hid (nextV [9223372036854775808, 1] 65 66 = (0, 2)) := Lib.hid (by decide +kernel)
  have q4 : Hid (lastV [9223372036854775808, 1] 65 63 = (0, 6)) := Lib.hid (by decide +kernel)
  have q5 : Hid (nthV [9223372036854775808, 1] 65 2 = (0, 6)) := Lib.hid (by decide +kernel)
  have q6 : Hid (hasV [9223372036854775808, 1] 65 65 = (false, 2)) := Lib.hid (by decide +kernel)
  have q7 : Hid (cntV [9223372036854775808, 1] 65 3 2 = (0, 2)) := Lib.hid (by decide +kernel)
  have qw : Hid (withV [9223372036854775808, 1] 65 63 false = ([0, 1], 0)) := Lib.hid (by decide +kernel)
  have q9 : Hid (chkV [16] 4 = 8) := Lib.hid (by decide +kernel)
  have q10 : Hid (chkV [1, 0] 64 = 8) := Lib.hid (by decide +kernel)
  have q11 : Hid (chkV [] 65537 = 2) := Lib.hid (by decide +kernel)
  have q12 : Hid (chkV [] (-1) = 2) := Lib.hid (by decide +kernel)
  have q13 : Hid (chkV [] 0 = 0) := Lib.hid (by decide +kernel)
  have q14 : Hid (chkV [9223372036854775808] 64 = 0) := Lib.hid (by decide +kernel)
  have H1 : Hid (SL w [((some ⟨w.heap.size, 0, Option.none⟩ : Option Addr), ([9223372036854775808, 1] : List Int))] (w.alloc (.cells #[.int .u64 9223372036854775808, .int .u64 1] 42))) := Lib.hid ⟨below_news _ _, by intro p hp; simp at hp; subst hp; exact rd_news rfl, hT.mono (below_news _ _)⟩
  clear hT
  go_enter Tryd.func7, Tryd.ntmps7
  go_wp2_with fail
  refine (Count_any (some ⟨w.heap.size, 0, Option.none⟩) 2 [9223372036854775808, 1] 65 0 65 _ HU.out H1.out.at0 (by decide)).mono ?_
  rintro e w2 ⟨rfl, hb⟩
  have H2 := Lib.hid (H1.out.next hb)
  clear hb
  rw [q0.out]
  go_wp2_with fail
  refine (Next_any (some ⟨w.heap.size, 0, Option.none⟩) 2 [9223372036854775808, 1] 65 64 w2 H2.out.t HU.out H2.out.at0 (by decide)).mono ?_
  rintro e w3 ⟨rfl, hb⟩
  have H3 := Lib.hid (H2.out.next hb)
  clear hb
  rw [q1.out]
  go_wp2_with fail
  refine (Last_any (some ⟨w.heap.size, 0, Option.none⟩) 2 [9223372036854775808, 1] 65 64 w3 HU.out H3.out.at0 (by decide)).mono ?_
  rintro e w4 ⟨rfl, hb⟩
  have H4 := Lib.hid (H3.out.next hb)
  clear hb
  rw [q2.out]
  go_wp2_with fail
  refine (Next_any (some ⟨w.heap.size, 0, Option.none⟩) 2 [9223372036854775808, 1] 65 66 w4 H4.out.t HU.out H4.out.at0 (by decide)).mono ?_
  rintro e w5 ⟨rfl, hb⟩
  have H5 := Lib.hid (H4.out.next hb)
  clear hb
  rw [q3.out]
  go_wp2_with fail
  refine (Last_any (some ⟨w.heap.size, 0, Option.none⟩) 2 [9223372036854775808, 1] 65 63 w5 HU.out H5.out.at0 (by decide)).mono ?_
  rintro e w6 ⟨rfl, hb⟩
  have H6 := Lib.hid (H5.out.next hb)
  clear hb
  rw [q4.out]
  go_wp2_with fail
  refine (Nth_any (some ⟨w.heap.size, 0, Option.none⟩) 2 [9223372036854775808, 1] 65 2 w6 H6.out.t HU.out H6.out.at0 (by decide) (by decide)).mono ?_
  rintro e w7 ⟨rfl, hb⟩
  have H7 := Lib.hid (H6.out.next hb)
  clear hb
  rw [q5.out]
  go_wp2_with fail
  refine (Has_any (some ⟨w.heap.size, 0, Option.none⟩) 2 [9223372036854775808, 1] 65 65 w7 HU.out H7.out.at0 (by decide)).mono ?_
  rintro e w' ⟨rfl, rfl⟩
  rw [q6.out]
  go_wp2_with fail
  refine (Count_any (some ⟨w.heap.size, 0, Option.none⟩) 2 [9223372036854775808, 1] 65 3 2 w7 HU.out H7.out.at0 (by decide)).mono ?_
  rintro e w8 ⟨rfl, hb⟩
  have H8 := Lib.hid (H7.out.next hb)
  clear hb
  rw [q7.out]
  go_wp2_with fail
  refine (With_any (some ⟨w.heap.size, 0, Option.none⟩) 2 [9223372036854775808, 1] 65 63 false w8 HU.out H8.out.at0 (by decide)).mono ?_
  intro e w9 hw
  rw [qw.out] at hw
  obtain ⟨a2, c2, rfl, hr, hb⟩ := ansW_arg hw
  have H9 := Lib.hid (H8.out.more hb hr)
  clear hw hb hr
  dsimp only
  have H10 := Lib.hid (H9.out.next (below_news w9 (.cells #[.int .u64 16] 42)))
  go_wp2_with fail
  refine (Check_any (some ⟨w9.heap.size, 0, Option.none⟩) 1 [16] 4 (w9.alloc (.cells #[.int .u64 16] 42)) (by intro z hz; simp at hz; omega) (rd_news rfl) (by decide)).mono ?_
  rintro e w' ⟨rfl, rfl⟩
  generalize w9.alloc (.cells #[.int .u64 16] 42) = w10 at *
  rw [q9.out]
  have H11 := Lib.hid (H10.out.next (below_news w10 (.cells #[.int .u64 1, .int .u64 0] 42)))
  go_wp2_with fail
  refine (Check_any (some ⟨w10.heap.size, 0, Option.none⟩) 2 [1, 0] 64 (w10.alloc (.cells #[.int .u64 1, .int .u64 0] 42)) (by intro z hz; simp at hz; omega) (rd_news rfl) (by decide)).mono ?_
  rintro e w' ⟨rfl, rfl⟩
  generalize w10.alloc (.cells #[.int .u64 1, .int .u64 0] 42) = w11 at *
  rw [q10.out]
  go_wp2_with fail
  refine (Check_any Option.none 0 [] 65537 w11 (by intro z hz; simp at hz) (.inl rfl) (by decide)).mono ?_
  rintro e w' ⟨rfl, rfl⟩
  rw [q11.out]
  go_wp2_with fail
  refine (Check_any Option.none 0 [] (-1) w11 (by intro z hz; simp at hz) (.inl rfl) (by decide)).mono ?_
  rintro e w' ⟨rfl, rfl⟩
  rw [q12.out]
  go_wp2_with fail
  refine (Check_any Option.none 0 [] 0 w11 (by intro z hz; simp at hz) (.inl rfl) (by decide)).mono ?_
  rintro e w' ⟨rfl, rfl⟩
  rw [q13.out]
  have H12 := Lib.hid (H11.out.next (below_news w11 (.cells #[.int .u64 9223372036854775808] 42)))
  go_wp2_with fail
  refine (Check_any (some ⟨w11.heap.size, 0, Option.none⟩) 1 [9223372036854775808] 64 (w11.alloc (.cells #[.int .u64 9223372036854775808] 42)) (by intro z hz; simp at hz; omega) (rd_news rfl) (by decide)).mono ?_
  rintro e w' ⟨rfl, rfl⟩
  generalize w11.alloc (.cells #[.int .u64 9223372036854775808] 42) = w12 at *
  rw [q14.out]
  go_wp2_with fail
  refine (at_any _ _ _ _).mono ?_
  rintro e w' ⟨rfl, rfl⟩
  simp only [decide_true, Bool.and_self]
  go_wp2_with fail
  refine (at_any _ _ _ _).mono ?_
  rintro e w' ⟨rfl, rfl⟩
  simp only [decide_true, Bool.and_self]
  go_wp2_with fail
  refine (at_any _ _ _ _).mono ?_
  rintro e w' ⟨rfl, rfl⟩
  simp only [decide_true, Bool.and_self]
  go_wp2_with fail
  refine (alive_any w12 H12.out.t).mono ?_
  rintro e w13 ⟨rfl, hb⟩
  have H13 := Lib.hid (H12.out.next hb)
  clear hb
  have H14 := Lib.hid (H13.out.more (below_news w13 (.cells #[.int .u64 0, .int .u64 1] 42)) (rd_news (zs := [0, 1]) rfl))
  go_wp2_with fail
  refine (Same_any a2 (some ⟨w13.heap.size, 0, Option.none⟩) c2 2 [0, 1] [0, 1] (w13.alloc (.cells #[.int .u64 0, .int .u64 1] 42)) H14.out.at1 H14.out.at0 (by decide) (by decide)).mono ?_
  rintro e w15 ⟨rfl, hb⟩
  have H15 := Lib.hid (H14.out.next hb)
  clear hb
  simp only [decide_true]
  go_wp2
  go_ret
  exact ⟨by simp, H15.out.b⟩

end Go.Proofs.YtnfjabohnjbgbaaDoor.Occ
