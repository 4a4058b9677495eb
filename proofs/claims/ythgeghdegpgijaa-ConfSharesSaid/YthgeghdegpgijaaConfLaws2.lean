/- The laws' own helpers of layer 5. -/
import Derived.Test.YthgeghdegpgijaaConfLaws
import Derived.Test.YthgeghdegpgijaaConfMath
namespace Go.Proofs.Ythgeghdegpgijaa.Conf
open Go.RowKit Go.Sort Go.Proofs.Ythgeghdegpgijaa Go.Proofs.Ythgeghdegpgijaa.Frac

set_option maxHeartbeats 400000 in
theorem chapter_any (m : Int) (w : World) :
    Calls Try.prog 21 #[.int .i64 m] w fun e w' => e = .returned (.agg #[.int .u8 1, .int .i64 m, .int .i64 4, .int .i64 16, .int .i64 8, .int .i64 0, .int .i64 1, .int .i64 4, .int .i64 8]) ∧ Below w.heap.size w w' := by
  go_enter Try.func21, Try.ntmps21
  go_wp2
  refine bodyPost_ret (v := .agg #[.int .u8 1, .int .i64 m, .int .i64 4, .int .i64 16, .int .i64 8, .int .i64 0, .int .i64 1, .int .i64 4, .int .i64 8]) (by simp [results, Try.results21, go_sem]) rfl ⟨rfl, ?_⟩
  exact (Below.refl _ _).alloc (Nat.le_refl _) _

theorem full_is (c : Cfg) (size h n : Int) (w : World) (W : c.Wf) (ws : (Lit.int .i64 size).wf = true) (r : Bool) (e : Int) (hv : fullV c size h n = (r, e)) :
    Calls Try.prog 15 #[.agg #[.int .u8 c.tag, .int .i64 c.most, .int .i64 c.seg, .int .i64 c.least, .int .i64 c.den, .int .i64 c.ll, .int .i64 c.rl, .int .i64 c.rh, .int .i64 c.lh], .int .i64 size, .int .i64 h, .int .i64 n] w fun x w' => x = .returned (.tuple #[.bool r, .int .i64 e]) ∧ Below w.heap.size w w' := by
  have := full_any c size h n w W ws; rw [hv] at this; exact this
theorem sparse_is (c : Cfg) (size h n : Int) (w : World) (W : c.Wf) (ws : (Lit.int .i64 size).wf = true) (r : Bool) (e : Int) (hv : sparseV c size h n = (r, e)) :
    Calls Try.prog 17 #[.agg #[.int .u8 c.tag, .int .i64 c.most, .int .i64 c.seg, .int .i64 c.least, .int .i64 c.den, .int .i64 c.ll, .int .i64 c.rl, .int .i64 c.rh, .int .i64 c.lh], .int .i64 size, .int .i64 h, .int .i64 n] w fun x w' => x = .returned (.tuple #[.bool r, .int .i64 e]) ∧ Below w.heap.size w w' := by
  have := sparse_any c size h n w W ws; rw [hv] at this; exact this
theorem cap_is (c : Cfg) (n : Int) (w : World) (W : c.Wf) (r e : Int) (hv : capV c n = (r, e)) :
    Calls Try.prog 9 #[.agg #[.int .u8 c.tag, .int .i64 c.most, .int .i64 c.seg, .int .i64 c.least, .int .i64 c.den, .int .i64 c.ll, .int .i64 c.rl, .int .i64 c.rh, .int .i64 c.lh], .int .i64 n] w fun x w' => x = .returned (.tuple #[.int .i64 r, .int .i64 e]) ∧ Below w.heap.size w w' := by
  have := cap_any c n w W; rw [hv] at this; exact this

set_option maxHeartbeats 400000 in
theorem lawFull_is (c : Cfg) (size h n : Int) (want : Bool) (w : World) (W : c.Wf) (ws : (Lit.int .i64 size).wf = true) (hv : fullV c size h n = (want, 0)) :
    Calls Try.prog 20 #[.agg #[.int .u8 c.tag, .int .i64 c.most, .int .i64 c.seg, .int .i64 c.least, .int .i64 c.den, .int .i64 c.ll, .int .i64 c.rl, .int .i64 c.rh, .int .i64 c.lh], .int .i64 size, .int .i64 h, .int .i64 n, .bool want] w fun e w' => e = .returned (.bool true) ∧ Below w.heap.size w w' := by
  have HC := Lib.hid (fun w => full_is c size h n w W ws _ _ hv)
  clear W ws hv
  go_enter Try.func20, Try.ntmps20
  go_wp2_with fail
  refine (HC.out _).mono ?_
  rintro e w' ⟨rfl, hb⟩
  go_wp2
  go_ret
  exact ⟨ret_bool (by cases want <;> rfl), box_below (box_first hb)⟩

set_option maxHeartbeats 400000 in
theorem lawSparse_is (c : Cfg) (size h n : Int) (want : Bool) (w : World) (W : c.Wf) (ws : (Lit.int .i64 size).wf = true) (hv : sparseV c size h n = (want, 0)) :
    Calls Try.prog 22 #[.agg #[.int .u8 c.tag, .int .i64 c.most, .int .i64 c.seg, .int .i64 c.least, .int .i64 c.den, .int .i64 c.ll, .int .i64 c.rl, .int .i64 c.rh, .int .i64 c.lh], .int .i64 size, .int .i64 h, .int .i64 n, .bool want] w fun e w' => e = .returned (.bool true) ∧ Below w.heap.size w w' := by
  have HC := Lib.hid (fun w => sparse_is c size h n w W ws _ _ hv)
  clear W ws hv
  go_enter Try.func22, Try.ntmps22
  go_wp2_with fail
  refine (HC.out _).mono ?_
  rintro e w' ⟨rfl, hb⟩
  go_wp2
  go_ret
  exact ⟨ret_bool (by cases want <;> rfl), box_below (box_first hb)⟩

set_option maxHeartbeats 400000 in
theorem odd_is (c : Cfg) (w : World) (W : c.Wf) (h : checkV c = 50) :
    Calls Try.prog 23 #[.agg #[.int .u8 c.tag, .int .i64 c.most, .int .i64 c.seg, .int .i64 c.least, .int .i64 c.den, .int .i64 c.ll, .int .i64 c.rl, .int .i64 c.rh, .int .i64 c.lh]] w fun e w' => e = .returned (.bool true) ∧ Below w.heap.size w w' := by
  have HC := Lib.hid (fun w => check_is c w W _ h)
  clear W h
  go_enter Try.func23, Try.ntmps23
  go_wp2_with fail
  refine (HC.out _).mono ?_
  rintro e w' ⟨rfl, hb⟩
  go_wp2
  go_ret
  exact ⟨rfl, box_below (box_first hb)⟩

/-- The chapter's config. -/
def ch (m : Int) : Cfg := ⟨1, m, 4, 16, 8, 0, 1, 4, 8⟩
theorem ch8_wf : (ch 8).Wf := ⟨by decide, by decide, by decide, by decide, by decide, by decide, by decide, by decide, by decide⟩
theorem ch9_wf : (ch 9).Wf := ⟨by decide, by decide, by decide, by decide, by decide, by decide, by decide, by decide, by decide⟩
theorem ch8_cap (w : World) : Calls Try.prog 9 #[.agg #[.int .u8 1, .int .i64 8, .int .i64 4, .int .i64 16, .int .i64 8, .int .i64 0, .int .i64 1, .int .i64 4, .int .i64 8], .int .i64 8] w fun x w' => x = .returned (.tuple #[.int .i64 16, .int .i64 0]) ∧ Below w.heap.size w w' := cap_is (ch 8) 8 w ch8_wf 16 0 (by decide +kernel)
theorem ch8_high (w : World) : Calls Try.prog 11 #[.agg #[.int .u8 1, .int .i64 8, .int .i64 4, .int .i64 16, .int .i64 8, .int .i64 0, .int .i64 1, .int .i64 4, .int .i64 8], .int .i64 16] w fun x w' => x = .returned (.tuple #[.int .i64 2, .int .i64 0]) ∧ Below w.heap.size w w' := high_is (ch 8) 16 w ch8_wf (by decide) 2 0 (by decide +kernel)
theorem ch8_check (w : World) : Calls Try.prog 13 #[.agg #[.int .u8 1, .int .i64 8, .int .i64 4, .int .i64 16, .int .i64 8, .int .i64 0, .int .i64 1, .int .i64 4, .int .i64 8]] w fun x w' => x = .returned (.int .i64 0) ∧ Below w.heap.size w w' := check_is (ch 8) w ch8_wf 0 (by decide +kernel)
theorem ch9_check (w : World) : Calls Try.prog 13 #[.agg #[.int .u8 1, .int .i64 9, .int .i64 4, .int .i64 16, .int .i64 8, .int .i64 0, .int .i64 1, .int .i64 4, .int .i64 8]] w fun x w' => x = .returned (.int .i64 50) ∧ Below w.heap.size w w' := check_is (ch 9) w ch9_wf 50 (by decide +kernel)
theorem ch8_full (size h n : Int) (want : Bool) (w : World) (ws : (Lit.int .i64 size).wf = true) (hv : fullV (ch 8) size h n = (want, 0)) :
    Calls Try.prog 20 #[.agg #[.int .u8 1, .int .i64 8, .int .i64 4, .int .i64 16, .int .i64 8, .int .i64 0, .int .i64 1, .int .i64 4, .int .i64 8], .int .i64 size, .int .i64 h, .int .i64 n, .bool want] w fun e w' => e = .returned (.bool true) ∧ Below w.heap.size w w' := lawFull_is (ch 8) size h n want w ch8_wf ws hv

set_option maxRecDepth 100000 in
set_option maxHeartbeats 2000000 in
theorem alive_any (w : World) :
    Calls Try.prog 19 #[] w fun e w' => e = .returned (.bool true) ∧ Below w.heap.size w w' := by
  have hB := Below.refl w.heap.size w
  go_enter Try.func19, Try.ntmps19
  go_wp2_with (first | (go_at_call 21; refine (chapter_any _ _).mono ?_; rintro e w' ⟨rfl, hn⟩; replace hB := bstep0 hB hn; clear hn) | (go_at_call 9; refine (ch8_cap _).mono ?_; rintro e w' ⟨rfl, hn⟩; replace hB := bstep0 hB hn; clear hn) | (go_at_call 11; refine (ch8_high _).mono ?_; rintro e w' ⟨rfl, hn⟩; replace hB := bstep0 hB hn; clear hn) | (go_at_call 13; (first | (with_reducible refine (ch8_check _).mono ?_) | (with_reducible refine (ch9_check _).mono ?_)); rintro e w' ⟨rfl, hn⟩; replace hB := bstep0 hB hn; clear hn) | (go_at_call 20; refine (ch8_full _ _ _ _ _ ?_ ?_).mono ?_; (iterate 2 decide +kernel); rintro e w' ⟨rfl, hn⟩; replace hB := bstep0 hB hn; clear hn))
  go_ret
  exact ⟨rfl, hB⟩

end Go.Proofs.Ythgeghdegpgijaa.Conf
