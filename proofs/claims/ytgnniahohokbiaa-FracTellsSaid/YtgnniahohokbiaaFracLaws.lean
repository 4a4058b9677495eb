/- The walks of the laws of layer 1: each returns true. -/
import Derived.Test.YtgnniahohokbiaaFrac
namespace Go.Proofs.Ytgnniahohokbiaa.Frac
open Go.RowKit Go.Proofs.Ytgnniahohokbiaa

set_option maxHeartbeats 1000000 in
theorem fracTells (a0 a1 a2 a3 : Int) (w0 : (Lit.int .i64 a0).wf = true) (w1 : (Lit.int .i64 a1).wf = true) (w2 : (Lit.int .i64 a2).wf = true) (w3 : (Lit.int .i64 a3).wf = true) (w : World) :
    Calls Try.prog 3 #[.int .i64 a0, .int .i64 a1, .int .i64 a2, .int .i64 a3] w fun e w' => e = .returned (.bool true) ∧ Below w.heap.size w w' := by
  go_enter Try.func3, Try.ntmps3
  go_wp2_with (first | (go_at_call 9; refine (cross_any _ _ _ _ _).mono ?_; rintro e w' ⟨rfl, hb1⟩) | (go_at_call 10; refine (refCross_any _ _ _ _ _).mono ?_; rintro e w' ⟨rfl, rfl⟩) | (go_at_call 11; refine (between_any _ _ _ _ _).mono ?_; rintro e w' ⟨rfl, hb2⟩) | (go_at_call 12; refine (refBetween_any _ _ _ _ _).mono ?_; rintro e w' ⟨rfl, rfl⟩))
  go_ret
  exact ⟨rfl, hb1.trans (hb2.mono hb1.size)⟩

set_option maxHeartbeats 1000000 in
theorem fracDoes (a b : Int) (wa : (Lit.int .i64 a).wf = true) (wb : (Lit.int .i64 b).wf = true) (w : World) :
    Calls Try.prog 6 #[.int .i64 a, .int .i64 b] w fun e w' => e = .returned (.bool true) ∧ Below w.heap.size w w' := by
  go_enter Try.func6, Try.ntmps6
  go_wp2_with (first | (go_at_call 18; refine (add_any _ _ _ wa wb).mono ?_; rintro e w' ⟨rfl, rfl⟩) | (go_at_call 19; refine (refAdd_any _ _ _ wa wb).mono ?_; rintro e w' ⟨rfl, rfl⟩) | (go_at_call 20; refine (mul_any _ _ _ wa wb).mono ?_; rintro e w' ⟨rfl, rfl⟩) | (go_at_call 21; refine (refMul_any _ _ _ wa wb).mono ?_; rintro e w' ⟨rfl, rfl⟩) | (go_at_call 15; refine (up_any _ _ wa).mono ?_; rintro e w' ⟨rfl, rfl⟩) | (go_at_call 22; refine (refUp_any _ _ wa).mono ?_; rintro e w' ⟨rfl, rfl⟩) | (go_at_call 16; refine (down_any _ _ wa).mono ?_; rintro e w' ⟨rfl, rfl⟩) | (go_at_call 23; refine (refDown_any _ _ wa).mono ?_; rintro e w' ⟨rfl, rfl⟩) | (go_at_call 17; refine (power_any _ _ wa).mono ?_; rintro e w' ⟨rfl, rfl⟩) | (go_at_call 24; refine (refPower_any _ _ wa).mono ?_; rintro e w' ⟨rfl, rfl⟩))
  go_ret
  exact ⟨rfl, Below.refl _ _⟩

end Go.Proofs.Ytgnniahohokbiaa.Frac
