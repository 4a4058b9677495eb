/- The walks of the laws of layer 1: each returns true. -/
import Derived.Test.YtgnniahohokbiaaFrac
namespace Go.Proofs.Ytgnniahohokbiaa.Frac
open Go.RowKit Go.Proofs.Ytgnniahohokbiaa

set_option maxHeartbeats 1000000 in
theorem fracTells (a0 a1 a2 a3 : Int) (w0 : (Lit.int .i64 a0).wf = true) (w1 : (Lit.int .i64 a1).wf = true) (w2 : (Lit.int .i64 a2).wf = true) (w3 : (Lit.int .i64 a3).wf = true) (w : World) :
    Calls Try.prog 3 #[.int .i64 a0, .int .i64 a1, .int .i64 a2, .int .i64 a3] w fun e w' => e = .returned (.bool true) ∧ Below w.heap.size w w' := by
  go_enter Try.func3, Try.ntmps3
  go_wp2_with (first | (go_at_call 9; refine (cross_any _ _ _ _ _).mono ?_; rintro e w' ⟨rfl, hb1⟩) | (go_at_call 10; refine (refCross_any _ _ _ _ _).mono ?_; rintro e w' ⟨rfl, rfl⟩) | (go_at_call 11; refine (between_any _ _ _ _ _).mono ?_; rintro e w' ⟨rfl, hb2⟩) | (go_at_call 12; refine (refBetween_any _ _ _ _ _).mono ?_; rintro e w' ⟨rfl, rfl⟩))
  go_ret
  exact ⟨rfl, hb1.trans (hb2.mono hb1.size)⟩

set_option maxHeartbeats 1000000 in
theorem fracDoes (a b : Int) (wa : (Lit.int .i64 a).wf = true) (wb : (Lit.int .i64 b).wf = true) (w : World) :
    Calls Try.prog 6 #[.int .i64 a, .int .i64 b] w fun e w' => e = .returned (.bool true) ∧ Below w.heap.size w w' := by
  go_enter Try.func6, Try.ntmps6
  go_wp2_with (first | (go_at_call 18; refine (add_any _ _ _ wa wb).mono ?_; rintro e w' ⟨rfl, rfl⟩) | (go_at_call 19; refine (refAdd_any _ _ _ wa wb).mono ?_; rintro e w' ⟨rfl, rfl⟩) | (go_at_call 20; refine (mul_any _ _ _ wa wb).mono ?_; rintro e w' ⟨rfl, rfl⟩) | (go_at_call 21; refine (refMul_any _ _ _ wa wb).mono ?_; rintro e w' ⟨rfl, rfl⟩) | (go_at_call 15; refine (up_any _ _ wa).mono ?_; rintro e w' ⟨rfl, rfl⟩) | (go_at_call 22; refine (refUp_any _ _ wa).mono ?_; rintro e w' ⟨rfl, rfl⟩) | (go_at_call 16; refine (down_any _ _ wa).mono ?_; rintro e w' ⟨rfl, rfl⟩) | (go_at_call 23; refine (refDown_any _ _ wa).mono ?_; rintro e w' ⟨rfl, rfl⟩) | (go_at_call 17; refine (power_any _ _ wa).mono ?_; rintro e w' ⟨rfl, rfl⟩) | (go_at_call 24; refine (refPower_any _ _ wa).mono ?_; rintro e w' ⟨rfl, rfl⟩))
  go_ret
  exact ⟨rfl, Below.refl _ _⟩

/-! ### What the law's own helpers say -/
theorem lawCross_is (a b c d want : Int) (w : World) (h : crossV a b c d = (want, 0)) :
    Calls Try.prog 14 #[.int .i64 a, .int .i64 b, .int .i64 c, .int .i64 d, .int .i64 want] w fun e w' => e = .returned (.bool true) ∧ Below w.heap.size w w' := by
  have hc := fun w => cross_any a b c d w
  rw [h] at hc
  have HC := Lib.hid hc
  clear hc h
  go_enter Try.func14, Try.ntmps14
  go_wp2_with (go_at_call 9; refine (HC.out _).mono ?_; rintro e w' ⟨rfl, hb⟩)
  go_ret
  exact ⟨rfl, hb⟩

theorem up_is (n : Int) (w : World) (wn : (Lit.int .i64 n).wf = true) (r e : Int) (h : upV n = (r, e)) :
    Calls Try.prog 15 #[.int .i64 n] w fun x w' => x = .returned (.tuple #[.int .i64 r, .int .i64 e]) ∧ w = w' := by
  have := up_any n w wn; rw [h] at this; exact this
theorem down_is (n : Int) (w : World) (wn : (Lit.int .i64 n).wf = true) (r e : Int) (h : downV n = (r, e)) :
    Calls Try.prog 16 #[.int .i64 n] w fun x w' => x = .returned (.tuple #[.int .i64 r, .int .i64 e]) ∧ w = w' := by
  have := down_any n w wn; rw [h] at this; exact this
theorem add_is (a b : Int) (w : World) (wa : (Lit.int .i64 a).wf = true) (wb : (Lit.int .i64 b).wf = true) (r e : Int) (h : addV a b = (r, e)) :
    Calls Try.prog 18 #[.int .i64 a, .int .i64 b] w fun x w' => x = .returned (.tuple #[.int .i64 r, .int .i64 e]) ∧ w = w' := by
  have := add_any a b w wa wb; rw [h] at this; exact this
theorem mul_is (a b : Int) (w : World) (wa : (Lit.int .i64 a).wf = true) (wb : (Lit.int .i64 b).wf = true) (r e : Int) (h : mulV a b = (r, e)) :
    Calls Try.prog 20 #[.int .i64 a, .int .i64 b] w fun x w' => x = .returned (.tuple #[.int .i64 r, .int .i64 e]) ∧ w = w' := by
  have := mul_any a b w wa wb; rw [h] at this; exact this
theorem power_is (n : Int) (w : World) (wn : (Lit.int .i64 n).wf = true) (r : Bool) (h : powB n = r) :
    Calls Try.prog 17 #[.int .i64 n] w fun x w' => x = .returned (.bool r) ∧ w = w' := by
  have := power_any n w wn; rw [h] at this; exact this

set_option maxHeartbeats 1000000 in
theorem alive_any (w : World) :
    Calls Try.prog 13 #[] w fun e w' => e = .returned (.bool true) ∧ Below w.heap.size w w' := by
  have hb := Below.refl w.heap.size w
  go_enter Try.func13, Try.ntmps13
  go_wp2_with (first | (go_at_call 14; refine (lawCross_is _ _ _ _ _ _ ?_).mono ?_; decide +kernel; rintro e w' ⟨rfl, hn⟩; replace hb := bstep hb hn; clear hn) | (go_at_call 15; refine (up_is 5 _ (by decide) 3 0 (by decide +kernel)).mono ?_; rintro e w' ⟨rfl, rfl⟩) | (go_at_call 17; refine (power_is 8 _ (by decide) true (by decide +kernel)).mono ?_; rintro e w' ⟨rfl, rfl⟩))
  go_ret
  exact ⟨rfl, hb⟩

set_option maxHeartbeats 1000000 in
theorem fracLogs (n : Int) (wn : (Lit.int .i64 n).wf = true) (w : World) :
    Calls Try.prog 5 #[.int .i64 n] w fun e w' => e = .returned (.bool true) ∧ Below w.heap.size w w' := by
  have bn := bd64 wn
  by_cases h : n < 1
  · go_enter Try.func5, Try.ntmps5
    go_wp2_with (first | (go_at_call 13; refine (alive_any _).mono ?_; rintro e w' ⟨rfl, hb⟩) | (go_at_call 15; refine (up_is _ _ wn 0 2 (upV_no h)).mono ?_; rintro e w' ⟨rfl, rfl⟩) | (go_at_call 16; refine (down_is _ _ wn 0 2 (downV_no h)).mono ?_; rintro e w' ⟨rfl, rfl⟩) | (go_at_call 17; refine (power_is _ _ wn false (powB_no (by omega))).mono ?_; rintro e w' ⟨rfl, rfl⟩))
    go_ret
    exact ⟨rfl, hb⟩
  · have hL := log2_lt63 n (by omega)
    obtain ⟨f1, f2, f3⟩ := logs_facts n.toNat (by omega)
    obtain ⟨d, hd⟩ : ∃ d : Nat, n.toNat.log2 = d := ⟨_, rfl⟩
    obtain ⟨u, hu⟩ : ∃ u : Nat, clog n.toNat = u := ⟨_, rfl⟩
    have hdV : downV n = ((d : Int), 0) := by rw [downV_yes h, hd]
    have huV : upV n = ((u : Int), 0) := by rw [upV_yes h, hu]
    have hpB : powB n = decide (2 ^ d = n.toNat) := by
      unfold powB; rw [hd]
      have h0 : decide (0 < n) = true := by simp; omega
      rw [h0, Bool.true_and]
      exact decide_eq_decide.2 (by omega)
    rw [hd, hu] at f3
    rw [hd] at f1 f2 hL
    have hpb := pow_lt63 (k := d) hL
    obtain ⟨p, hp⟩ : ∃ p : Nat, 2 ^ d = p := ⟨_, rfl⟩
    have hs : wrap64 ((2 : Int) ^ d) = (p : Int) := by
      rw [show ((2 : Int) ^ d) = ((2 ^ d : Nat) : Int) by rw [Int.natCast_pow]; rfl, hp]
      exact IntWalk.wrap64_in _ (by omega)
    rw [hp] at f1 f2 f3 hpb hpB
    have HU := Lib.hid huV
    have HD := Lib.hid hdV
    clear huV hdV hd hu hp
    have g1 : (p : Int) ≤ n := by omega
    have g2 : n / 2 < (p : Int) := by omega
    rcases f3 with ⟨f3, f4⟩ | ⟨f3, f4⟩
    · have g3 : ((u : Int) == (d : Int)) = true := by simp; omega
      have g4 : (n == (p : Int)) = true := by simp; omega
      have HP := Lib.hid (show powB n = true by rw [hpB]; simp; omega)
      have g5 : (u : Int) ≤ 62 := by omega
      clear f1 f2 f3 f4 hpB
      go_enter Try.func5, Try.ntmps5
      go_wp2_with (first | (go_at_call 13; refine (alive_any _).mono ?_; rintro e w' ⟨rfl, hb⟩) | (go_at_call 15; refine (up_is _ _ wn _ _ HU.out).mono ?_; rintro e w' ⟨rfl, rfl⟩) | (go_at_call 16; refine (down_is _ _ wn _ _ HD.out).mono ?_; rintro e w' ⟨rfl, rfl⟩) | (go_at_call 17; refine (power_is _ _ wn true HP.out).mono ?_; rintro e w' ⟨rfl, rfl⟩))
      go_ret
      exact ⟨rfl, hb⟩
    · have g3 : ((u : Int) == (d : Int)) = false := by simp; omega
      have g4 : (n == (p : Int)) = false := by simp; omega
      have g6 : ((u : Int) == (d : Int) + 1) = true := by simp; omega
      have HP := Lib.hid (show powB n = false by rw [hpB]; simp; omega)
      have g5 : (u : Int) ≤ 63 := by omega
      clear f1 f2 f3 f4 hpB
      go_enter Try.func5, Try.ntmps5
      go_wp2_with (first | (go_at_call 13; refine (alive_any _).mono ?_; rintro e w' ⟨rfl, hb⟩) | (go_at_call 15; refine (up_is _ _ wn _ _ HU.out).mono ?_; rintro e w' ⟨rfl, rfl⟩) | (go_at_call 16; refine (down_is _ _ wn _ _ HD.out).mono ?_; rintro e w' ⟨rfl, rfl⟩) | (go_at_call 17; refine (power_is _ _ wn false HP.out).mono ?_; rintro e w' ⟨rfl, rfl⟩))
      go_ret
      exact ⟨rfl, hb⟩

theorem between_is (a b c d : Int) (w : World) (r e : Int) (h : betweenV a b c d = (r, e)) :
    Calls Try.prog 11 #[.int .i64 a, .int .i64 b, .int .i64 c, .int .i64 d] w fun x w' => x = .returned (.tuple #[.int .i64 r, .int .i64 e]) ∧ Below w.heap.size w w' := by
  have := between_any a b c d w; rw [h] at this; exact this
theorem cross_is (a b c d : Int) (w : World) (r e : Int) (h : crossV a b c d = (r, e)) :
    Calls Try.prog 9 #[.int .i64 a, .int .i64 b, .int .i64 c, .int .i64 d] w fun x w' => x = .returned (.tuple #[.int .i64 r, .int .i64 e]) ∧ Below w.heap.size w w' := by
  have := cross_any a b c d w; rw [h] at this; exact this

set_option maxRecDepth 100000 in
set_option maxHeartbeats 2000000 in
theorem fracNames (w : World) :
    Calls Try.prog 8 #[] w fun e w' => e = .returned (.bool true) ∧ Below w.heap.size w w' := by
  have hb := Below.refl w.heap.size w
  go_enter Try.func8, Try.ntmps8
  go_wp2_with (first | (go_at_call 14; refine (lawCross_is _ _ _ _ _ _ ?_).mono ?_; decide +kernel; rintro e w' ⟨rfl, hn⟩; replace hb := bstep hb hn; clear hn) | (go_at_call 13; refine (alive_any _).mono ?_; rintro e w' ⟨rfl, hn⟩; replace hb := bstep hb hn; clear hn) | (go_at_call 9; (first | (with_reducible refine (cross_is 67108864 1 1 1 _ 0 10 ?_).mono ?_) | (with_reducible refine (cross_is 1 1 1 (-67108864) _ 0 10 ?_).mono ?_)); decide +kernel; rintro e w' ⟨rfl, hn⟩; replace hb := bstep hb hn; clear hn) | (go_at_call 11; (first | (with_reducible refine (between_is 10 20 1 4 _ 50 0 ?_).mono ?_) | (with_reducible refine (between_is 1 1 5 4 _ 0 2 ?_).mono ?_) | (with_reducible refine (between_is 1 1 0 0 _ 0 2 ?_).mono ?_) | (with_reducible refine (between_is 67108864 1 0 1 _ 0 10 ?_).mono ?_)); decide +kernel; rintro e w' ⟨rfl, hn⟩; replace hb := bstep hb hn; clear hn) | (go_at_call 20; (first | (with_reducible refine (mul_is (-1) (-9223372036854775808) _ ?_ ?_ 0 10 ?_).mono ?_) | (with_reducible refine (mul_is (-4611686018427387904) 2 _ ?_ ?_ (-9223372036854775808) 0 ?_).mono ?_)); (iterate 3 decide +kernel); rintro e w' ⟨rfl, rfl⟩) | (go_at_call 18; refine (add_is _ _ _ ?_ ?_ 0 10 ?_).mono ?_; (iterate 3 decide +kernel); rintro e w' ⟨rfl, rfl⟩) | (go_at_call 15; refine (up_is _ _ ?_ 0 2 ?_).mono ?_; (iterate 2 decide +kernel); rintro e w' ⟨rfl, rfl⟩) | (go_at_call 16; refine (down_is _ _ ?_ 2 0 ?_).mono ?_; (iterate 2 decide +kernel); rintro e w' ⟨rfl, rfl⟩) | (go_at_call 17; (first | (with_reducible refine (power_is 0 _ ?_ false ?_).mono ?_) | (with_reducible refine (power_is 6 _ ?_ false ?_).mono ?_) | (with_reducible refine (power_is 1 _ ?_ true ?_).mono ?_)); (iterate 2 decide +kernel); rintro e w' ⟨rfl, rfl⟩))
  go_ret
  exact ⟨rfl, hb⟩

theorem addV_comm (a b : Int) : addV b a = addV a b := by unfold addV; rw [Int.add_comm]
theorem mulV_comm (a b : Int) : mulV b a = mulV a b := by unfold mulV; rw [Int.mul_comm]

theorem safe_sum (a b : Int) (ba : -9223372036854775808 ≤ a ∧ a ≤ 9223372036854775807) (bb : -9223372036854775808 ≤ b ∧ b ≤ 9223372036854775807) :
    (addV a b = (0, 10)) ∨ (addV a b = (a + b, 0) ∧ -9223372036854775808 ≤ a + b ∧ a + b ≤ 9223372036854775807) := by
  by_cases h : -9223372036854775808 ≤ a + b ∧ a + b ≤ 9223372036854775807
  · exact .inr ⟨addV_yes h, h⟩
  · exact .inl (addV_no h)
theorem safe_mul (a b : Int) : (mulV a b = (0, 10)) ∨ (mulV a b = (a * b, 0)) := by
  by_cases h : -9223372036854775808 ≤ a * b ∧ a * b ≤ 9223372036854775807
  · exact .inr (mulV_yes h)
  · exact .inl (mulV_no h)

set_option maxHeartbeats 4000000 in
theorem fracSafe (a b : Int) (wa : (Lit.int .i64 a).wf = true) (wb : (Lit.int .i64 b).wf = true) (w : World) :
    Calls Try.prog 7 #[.int .i64 a, .int .i64 b] w fun e w' => e = .returned (.bool true) ∧ Below w.heap.size w w' := by
  have ba := bd64 wa
  have bb := bd64 wb
  have S := safe_sum a b ba bb
  -- the sum's ways, the product's ways
  obtain ⟨s, e, hA, hs⟩ : ∃ s e, addV a b = (s, e) ∧ ((s = 0 ∧ e = 10) ∨ (e = 0 ∧ s - b = a ∧ (decide (0 ≤ b) == decide (a ≤ s)) = true)) := by
    rcases S with h | ⟨h, h1, h2⟩
    · exact ⟨_, _, h, .inl ⟨rfl, rfl⟩⟩
    · refine ⟨_, _, h, .inr ⟨rfl, by omega, ?_⟩⟩
      by_cases c : 0 ≤ b
      · simp [c]; omega
      · simp [c]; omega
  obtain ⟨p, f, hM, hp⟩ : ∃ p f, mulV a b = (p, f) ∧ ((p = 0 ∧ f = 10) ∨ (f = 0 ∧ ((b = 0 ∧ p = 0) ∨ (b ≠ 0 ∧ p.tdiv b = a ∧ p.tmod b = 0)))) := by
    rcases safe_mul a b with h | h
    · exact ⟨_, _, h, .inl ⟨rfl, rfl⟩⟩
    · refine ⟨_, _, h, .inr ⟨rfl, ?_⟩⟩
      by_cases c : b = 0
      · exact .inl ⟨c, by simp [c]⟩
      · exact .inr ⟨c, Int.mul_tdiv_cancel a c, Int.mul_tmod_left a b⟩
  have HA := Lib.hid hA
  have HA2 := Lib.hid ((addV_comm a b).trans hA)
  have HM := Lib.hid hM
  have HM2 := Lib.hid ((mulV_comm a b).trans hM)
  clear hA hM S
  rcases hs with ⟨rfl, rfl⟩ | ⟨rfl, hs, hs2⟩
  all_goals
    rcases hp with ⟨rfl, rfl⟩ | ⟨rfl, ⟨rfl, rfl⟩ | ⟨hb, hq, hr⟩⟩
    all_goals
      go_enter Try.func7, Try.ntmps7
      go_wp2_with (first | (go_at_call 13; refine (alive_any _).mono ?_; rintro e w' ⟨rfl, hn⟩) | (go_at_call 18; (first | (with_reducible refine (add_is _ _ _ wa wb _ _ HA.out).mono ?_) | (with_reducible refine (add_is _ _ _ wb wa _ _ HA2.out).mono ?_)); rintro e w' ⟨rfl, rfl⟩) | (go_at_call 20; (first | (with_reducible refine (mul_is _ _ _ wa wb _ _ HM.out).mono ?_) | (with_reducible refine (mul_is _ _ _ wb wa _ _ HM2.out).mono ?_)); rintro e w' ⟨rfl, rfl⟩))
      go_ret
      exact ⟨by first | rfl | exact ret_bool (by simpa using hb), hn⟩

end Go.Proofs.Ytgnniahohokbiaa.Frac
