/- The laws WinHalves and WinMeets: walks. -/
import Derived.Test.YtogbkhlbmchjlaaWinLaws2
namespace Go.Proofs.Ytogbkhlbmchjlaa.Win
open Go.RowKit Go.Shelf Go.Proofs.Ytogbkhlbmchjlaa Go.Proofs.Ytogbkhlbmchjlaa.Frac

theorem around_V {seg size h s : Int} (hq : askA seg size h s = true) : ∃ a c h' s' : Nat, seg = ((2 ^ a : Nat) : Int) ∧ size = ((2 ^ (a + c) : Nat) : Int) ∧ h = (h' : Int) ∧ s = (s' : Int) ∧ 2 ≤ a ∧ a ≤ 6 ∧ a + c ≤ 16 ∧ h' ≤ c ∧ s' < 2 ^ (a + c) := by
  obtain ⟨q0, qs, h1, h2⟩ := askA_iff.1 hq
  obtain ⟨a, c, e1, e2, q1, q2, q3⟩ := okB_form q0
  obtain ⟨s0, s1⟩ := inR_iff.1 qs
  rw [e1, e2, highN_of] at h2
  obtain ⟨h', e3⟩ := Int.eq_ofNat_of_zero_le h1
  obtain ⟨s', e4⟩ := Int.eq_ofNat_of_zero_le s0
  exact ⟨a, c, h', s', e1, e2, e3, e4, q1, q2, q3, by rw [e3] at h2; exact Int.ofNat_le.1 h2, by rw [e4, e2] at s1; exact Int.ofNat_lt.1 s1⟩
theorem askA_of {a c h s : Nat} (q1 : 2 ≤ a) (q2 : a ≤ 6) (q3 : a + c ≤ 16) (hs : s < 2 ^ (a + c)) : askA ((2 ^ a : Nat) : Int) ((2 ^ (a + c) : Nat) : Int) (h : Int) (s : Int) = decide (h ≤ c) := by
  rw [Bool.eq_iff_iff, askA_iff, highN_of, decide_eq_true_eq]
  constructor
  · intro g; exact Int.ofNat_le.1 g.2.2.2
  · intro g; exact ⟨okB_of q1 q2 q3, inR_iff.2 ⟨Int.natCast_nonneg _, Int.ofNat_lt.2 hs⟩, Int.natCast_nonneg _, Int.ofNat_le.2 g⟩
theorem around_ok {a c h s : Nat} (q1 : 2 ≤ a) (q2 : a ≤ 6) (q3 : a + c ≤ 16) (hs : s < 2 ^ (a + c)) (hh : h ≤ c) : aroundV ((2 ^ a : Nat) : Int) ((2 ^ (a + c) : Nat) : Int) (h : Int) (s : Int) = (((lowW (a + h) s : Nat) : Int), ((lowW (a + h) s + 2 ^ (a + h) : Nat) : Int), 0) := by
  unfold aroundV kW
  rw [askA_of q1 q2 q3 hs, if_pos (decide_eq_true hh), Int.toNat_natCast, Nat.log2_two_pow, Int.toNat_natCast, Int.toNat_natCast]
theorem around_far {a c h s : Nat} (q1 : 2 ≤ a) (q2 : a ≤ 6) (q3 : a + c ≤ 16) (hs : s < 2 ^ (a + c)) (hh : c < h) : aroundV ((2 ^ a : Nat) : Int) ((2 ^ (a + c) : Nat) : Int) (h : Int) (s : Int) = (0, 0, 2) := by
  unfold aroundV
  rw [askA_of q1 q2 q3 hs, decide_eq_false (by omega)]; rfl
theorem lowW_in {k n s : Nat} (hk : k ≤ n) (hs : s < 2 ^ n) : lowW k s + 2 ^ k ≤ 2 ^ n := by
  unfold lowW
  have e : 2 ^ n = 2 ^ (n - k) * 2 ^ k := by rw [← Nat.pow_add]; congr 1; omega
  have h1 : s / 2 ^ k < 2 ^ (n - k) := by rw [Nat.div_lt_iff_lt_mul (Nat.pow_pos (by decide)), ← e]; exact hs
  have : (s / 2 ^ k + 1) * 2 ^ k ≤ 2 ^ (n - k) * 2 ^ k := Nat.mul_le_mul_right _ h1
  rw [e, Nat.add_mul] at *; omega
theorem lowW_top {n s : Nat} (hs : s < 2 ^ n) : lowW n s = 0 := by unfold lowW; rw [Nat.div_eq_of_lt hs, Nat.zero_mul]
theorem lowW_half (k s : Nat) : lowW k s = lowW (k + 1) s ∨ lowW k s = lowW (k + 1) s + 2 ^ k := by
  unfold lowW
  rw [Nat.pow_succ, ← Nat.div_div_eq_div_mul]
  generalize s / 2 ^ k = q
  generalize 2 ^ k = p
  have h := Nat.div_add_mod q 2
  have h2 := Nat.mod_lt q (show 0 < 2 by decide)
  generalize q / 2 = r at *
  have e : r * (p * 2) = 2 * r * p := by rw [Nat.mul_comm p 2, ← Nat.mul_assoc, Nat.mul_comm r 2]
  rw [e]
  by_cases h3 : q % 2 = 0
  · left; rw [← h, h3]; rfl
  · right; rw [← h, show q % 2 = 1 by omega, Nat.add_mul, Nat.one_mul]
theorem lowW_mod (k s : Nat) : ((lowW k s : Nat) : Int).tmod ((2 ^ k : Nat) : Int) = 0 := by
  unfold lowW
  rw [Int.natCast_mul, Int.mul_tmod_left]

set_option maxRecDepth 100000 in
set_option maxHeartbeats 4000000 in
theorem winHalves (seg size h s : Int) (w1 : (Lit.int .i64 seg).wf = true) (w2 : (Lit.int .i64 size).wf = true) (w3 : (Lit.int .i64 h).wf = true) (w4 : (Lit.int .i64 s).wf = true) (w : World) :
    Calls Try.prog 5 #[.int .i64 seg, .int .i64 size, .int .i64 h, .int .i64 s] w fun e w' => e = .returned (.bool true) ∧ Below w.heap.size w w' := by
  clear w1 w2 w3 w4
  by_cases hq : askA seg size h s = true
  · obtain ⟨a, c, h, s, rfl, rfl, rfl, rfl, q1, q2, q3, hh, hs⟩ := around_V hq
    clear hq
    have hs16 : 2 ^ (a + c) ≤ 65536 := Nat.le_trans (Nat.pow_le_pow_right (by decide) q3) (by decide)
    have HA1 := Lib.hid (fun w => Around_is _ _ _ _ _ _ _ w (around_ok (h := h) q1 q2 q3 hs hh))
    have b1 := lowW_le (a + h) s
    have b2 := lowW_gt (a + h) s
    have b3 := lowW_in (show a + h ≤ a + c by omega) hs
    have hm := lowW_mod (a + h) s
    have hp : 0 < 2 ^ (a + h) := Nat.pow_pos (by decide)
    have e1 : ((lowW (a + h) s + 2 ^ (a + h) : Nat) : Int) - ((lowW (a + h) s : Nat) : Int) = ((2 ^ (a + h) : Nat) : Int) := by omega
    rw [← e1] at hm
    by_cases hc : h = c
    · subst hc
      have HA2 := Lib.hid (fun w => Around_is _ _ _ _ _ _ _ w (around_far (h := h + 1) q1 q2 q3 hs (Nat.lt_succ_self _)))
      have e0 := lowW_top hs
      rw [e0, Nat.zero_add] at HA1
      clear hm b1 b2 b3 e1 e0
      rw [Int.natCast_add, Int.natCast_one] at HA2
      generalize (2 ^ (a + h) : Nat) = n at *
      generalize (2 ^ a : Nat) = pa at *
      have z1 : (0 : Int).tmod (n : Int) = 0 := Int.zero_tmod _
      have z2 : ¬ (s : Int) < 0 := by omega
      have z3 : (n : Int) ≠ 0 := by omega
      go_enter Try.func5, Try.ntmps5
      go_wp2_with fail
      refine (alive_any w).mono ?_
      rintro e w1 ⟨rfl, hb1⟩
      have HB1 := Lib.hid hb1
      clear hb1
      go_wp2_with fail
      refine (HA1.out _).mono ?_
      rintro e w2 ⟨rfl, hb2⟩
      have HB2 := Lib.hid (bstep HB1.out hb2)
      clear hb2
      go_wp2_with fail
      refine (HA2.out _).mono ?_
      rintro e w3 ⟨rfl, hb3⟩
      have HB3 := Lib.hid (bstep HB2.out hb3)
      clear hb3
      go_wp2
      go_ret
      exact ⟨by simp, HB3.out⟩
    · have HA2 := Lib.hid (fun w => Around_is _ _ _ _ _ _ _ w (around_ok (h := h + 1) q1 q2 q3 hs (by omega)))
      have b4 := lowW_in (show a + (h + 1) ≤ a + c by omega) hs
      have hf := lowW_half (a + h) s
      rw [Int.natCast_add h 1, Int.natCast_one] at HA2
      rw [show a + (h + 1) = a + h + 1 from rfl] at *
      have e2 : 2 ^ (a + h + 1) = 2 * 2 ^ (a + h) := by rw [Nat.pow_succ, Nat.mul_comm]
      rw [e2] at b4 HA2
      clear e1 e2
      generalize lowW (a + h + 1) s = z at *
      generalize lowW (a + h) s = f at *
      generalize (2 ^ (a + h) : Nat) = p at *
      generalize (2 ^ (a + c) : Nat) = n at *
      generalize (2 ^ a : Nat) = pa at *
      generalize ht : f + p = t at *
      generalize ht2 : z + 2 * p = t2 at *
      have z1 : decide (s < f) = false := decide_eq_false (by omega)
      have z2 : decide (t ≤ s) = false := decide_eq_false (by omega)
      have z3 : decide (n < t) = false := decide_eq_false (by omega)
      have z4 : decide (t ≤ f) = false := decide_eq_false (by omega)
      have z5 : (t : Int) - (f : Int) ≠ 0 := by omega
      have z6 : ((t2 : Int) - (z : Int) == 2 * ((t : Int) - (f : Int))) = true := by rw [beq_iff_eq]; omega
      have z7 : decide (t ≤ t2) = true := decide_eq_true (by omega)
      have z8 : decide (z ≤ f) = true := decide_eq_true (by omega)
      have z9 : (z == f || t2 == t) = true := by rw [Bool.or_eq_true, beq_iff_eq, beq_iff_eq]; omega
      have za : decide ((f : Int) < 0) = false := decide_eq_false (by omega)
      have HF := Lib.hid hf
      have hft : f ≤ t ∧ t ≤ n ∧ z ≤ t2 ∧ t2 ≤ n := by omega
      have HTT := Lib.hid ht
      have HTT2 := Lib.hid ht2
      clear hf b1 b2 b3 ht ht2 hs
      go_enter Try.func5, Try.ntmps5
      go_wp2_with fail
      refine (alive_any w).mono ?_
      rintro e w1 ⟨rfl, hb1⟩
      have HB1 := Lib.hid hb1
      clear hb1
      go_wp2_with fail
      refine (HA1.out _).mono ?_
      rintro e w2 ⟨rfl, hb2⟩
      have HB2 := Lib.hid (bstep HB1.out hb2)
      clear hb2
      go_wp2_with fail
      refine (HA2.out _).mono ?_
      rintro e w3 ⟨rfl, hb3⟩
      have HB3 := Lib.hid (bstep HB2.out hb3)
      clear hb3
      go_wp2
      all_goals
        go_ret
        exact ⟨by first | (simp_all; done) | (simp_all; omega), HB3.out⟩
  · have HA := Lib.hid (fun w => Around_is _ _ _ _ _ _ _ w (show aroundV seg size h s = (0, 0, 2) from if_neg hq))
    clear hq
    go_enter Try.func5, Try.ntmps5
    go_wp2_with fail
    refine (alive_any w).mono ?_
    rintro e w1 ⟨rfl, hb1⟩
    have HB1 := Lib.hid hb1
    clear hb1
    go_wp2_with fail
    refine (HA.out _).mono ?_
    rintro e w2 ⟨rfl, hb2⟩
    have HB2 := Lib.hid (bstep HB1.out hb2)
    clear hb2
    go_wp2
    go_ret
    exact ⟨rfl, HB2.out⟩

set_option maxRecDepth 100000 in
set_option maxHeartbeats 4000000 in
theorem winMeets (seg size h s t : Int) (w1 : (Lit.int .i64 seg).wf = true) (w2 : (Lit.int .i64 size).wf = true) (w3 : (Lit.int .i64 h).wf = true) (w4 : (Lit.int .i64 s).wf = true) (w5 : (Lit.int .i64 t).wf = true) (w : World) :
    Calls Try.prog 6 #[.int .i64 seg, .int .i64 size, .int .i64 h, .agg #[.int .i64 s, .int .i64 t]] w fun e w' => e = .returned (.bool true) ∧ Below w.heap.size w w' := by
  clear w1 w2 w3 w4 w5
  have hb0 : Below w.heap.size w (w.alloc (.cells #[.int .i64 s, .int .i64 t] 38)) := (Below.refl _ w).alloc (Nat.le_refl _) _
  have key : ∀ m1 m2 a1 a2 a3 b1 b2 b3 : Int, meetV seg size s t = (m1, m2) → aroundV seg size h s = (a1, a2, a3) → aroundV seg size h t = (b1, b2, b3) →
      ((m2 = 2 ∧ m1 = 0) ∨ (m2 = 0 ∧ a3 = 2) ∨ (m2 = 0 ∧ a3 = 0 ∧ b3 = 0 ∧ (a1 == b1) = decide (m1 ≤ h))) →
      Calls Try.prog 6 #[.int .i64 seg, .int .i64 size, .int .i64 h, .agg #[.int .i64 s, .int .i64 t]] w fun e w' => e = .returned (.bool true) ∧ Below w.heap.size w w' := by
    intro m1 m2 a1 a2 a3 b1 b2 b3 hM hA hB hx
    have HM := Lib.hid (fun w => Meet_is _ _ _ _ _ _ w hM)
    have HA := Lib.hid (fun w => Around_is _ _ _ _ _ _ _ w hA)
    have HB := Lib.hid (fun w => Around_is _ _ _ _ _ _ _ w hB)
    clear hM hA hB
    rcases hx with ⟨rfl, rfl⟩ | ⟨rfl, rfl⟩ | ⟨rfl, rfl, rfl, hx⟩
    all_goals
      go_enter Try.func6, Try.ntmps6
      go_wp2_with fail
      refine (alive_any _).mono ?_
      rintro e w1 ⟨rfl, hb1⟩
      have hc1 := cell2 hb1
      have HB1 := Lib.hid (bstep hb0 hb1)
      have hz1 : w.heap.size < w1.heap.size := by have := hb1.size; simp at this; omega
      clear hb1
      go_wp2_with fail
      refine (HM.out _).mono ?_
      rintro e w2 ⟨rfl, hb2⟩
      have hc2 := cell3 hc1 hb2 hz1
      have HB2 := Lib.hid (bstep HB1.out hb2)
      have hz2 : w.heap.size < w2.heap.size := Nat.lt_of_lt_of_le hz1 hb2.size
      clear hb2 hc1 hz1
      go_wp2_with fail
      refine (HA.out _).mono ?_
      rintro e w3 ⟨rfl, hb3⟩
      have hc3 := cell3 hc2 hb3 hz2
      have HB3 := Lib.hid (bstep HB2.out hb3)
      have hz3 : w.heap.size < w3.heap.size := Nat.lt_of_lt_of_le hz2 hb3.size
      clear hb3 hc2 hz2
      go_wp2_with fail
      refine (HB.out _).mono ?_
      rintro e w4 ⟨rfl, hb4⟩
      have HB4 := Lib.hid (bstep HB3.out hb4)
      clear hb4 hc3 hz3
      go_wp2
      go_ret
      exact ⟨by simp_all, HB4.out⟩
  by_cases hm : okB seg size = true ∧ inR size s = true ∧ inR size t = true
  · by_cases hq : askA seg size h s = true
    · obtain ⟨a, c, h, s, rfl, rfl, rfl, rfl, q1, q2, q3, hh, hs⟩ := around_V hq
      obtain ⟨t0, t1⟩ := inR_iff.1 hm.2.2
      obtain ⟨t, rfl⟩ := Int.eq_ofNat_of_zero_le t0
      have ht : t < 2 ^ (a + c) := Int.ofNat_lt.1 t1
      have hs16 : 2 ^ (a + c) ≤ 65536 := Nat.le_trans (Nat.pow_le_pow_right (by decide) q3) (by decide)
      refine key _ _ _ _ _ _ _ _ (by unfold meetV; exact if_pos hm) (around_ok q1 q2 q3 hs hh) (around_ok q1 q2 q3 ht hh) (.inr (.inr ⟨rfl, rfl, rfl, ?_⟩))
      rw [Int.toNat_natCast, Int.toNat_natCast, Int.toNat_natCast, Nat.log2_two_pow]
      have := meet_iff a h s t (by omega) (by omega)
      rw [Bool.eq_iff_iff, beq_iff_eq, decide_eq_true_eq]
      constructor
      · intro g; exact Int.ofNat_le.2 (this.1 (Int.ofNat_inj.1 g))
      · intro g; rw [this.2 (Int.ofNat_le.1 g)]
    · exact key _ _ _ _ _ _ _ _ (by unfold meetV; exact if_pos hm) (by unfold aroundV; exact if_neg hq) rfl (.inr (.inl ⟨rfl, rfl⟩))
  · exact key _ _ _ _ _ _ _ _ (by unfold meetV; exact if_neg hm) rfl rfl (.inl ⟨rfl, rfl⟩)

end Go.Proofs.Ytogbkhlbmchjlaa.Win
