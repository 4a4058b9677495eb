/- The document's shares. -/
import Derived.Test.YtlcagdidhdkpdaaSpread5
namespace Go.Proofs.Ytlcagdidhdkpdaa.Spr
open Go.RowKit Go.Shelf Go.Proofs.Ytlcagdidhdkpdaa

set_option maxRecDepth 100000 in
set_option maxHeartbeats 4000000 in
theorem refShare_any (n f t p k : Int) (w : World) : Calls Try.prog 12 #[.int .i64 n, .int .i64 f, .int .i64 t, .int .i64 p, .int .i64 k] w fun e w' => e = .returned (.tuple #[.int .i64 (shareV n f t p k).1, .int .i64 (shareV n f t p k).2]) ∧ Below w.heap.size w w' := by
  by_cases h : askB n f t p k = true
  · have HV := Lib.hid (show shareV n f t p k = (((shareN n.toNat p.toNat k.toNat : Nat) : Int), 0) from if_pos h)
    obtain ⟨hm, h1, h2, h3, h4⟩ := askB_iff.1 h
    have HM := Lib.hid hm
    obtain ⟨m1, m2, m3, m4, m5⟩ := mayB_iff.1 hm
    have hrem2 : ((t - f) % p != 0) = false := by rw [h2]; rfl
    clear h hm
    by_cases hz : t = f
    · have H : Hid (shareV n f t p k = (0, 0)) := Lib.hid (by rw [HV.out, show n.toNat = 0 by omega, shareN_zero]; rfl)
      subst hz
      have hd0 : (t - t) / p = 0 := by rw [Int.sub_self, Int.zero_ediv]
      have hd1 : (0 : Int) / p = 0 := Int.zero_ediv p
      clear HV h2
      go_enter Try.func12, Try.ntmps12
      go_wp2_with fail
      refine (refMay_any _ _ _ _).mono ?_
      rintro e w' ⟨rfl, rfl⟩
      rw [HM.out]
      go_wp2
      go_ret2
      exact ⟨ret_pair H.out, Below.refl _ _⟩
    · obtain ⟨n, rfl⟩ := Int.eq_ofNat_of_zero_le m4
      obtain ⟨f, rfl⟩ := Int.eq_ofNat_of_zero_le m1
      obtain ⟨t, rfl⟩ := Int.eq_ofNat_of_zero_le (show 0 ≤ t by omega)
      obtain ⟨p, rfl⟩ := Int.eq_ofNat_of_zero_le (show 0 ≤ p by omega)
      obtain ⟨k, rfl⟩ := Int.eq_ofNat_of_zero_le h3
      obtain ⟨q, hq⟩ := Int.dvd_of_emod_eq_zero h2
      have hq0 : 1 ≤ q := by
        rcases Int.lt_or_le q 1 with g | g
        · have := Int.mul_le_mul_of_nonneg_left (show q ≤ 0 by omega) (show (0 : Int) ≤ (p : Int) by omega)
          omega
        · exact g
      obtain ⟨q, rfl⟩ := Int.eq_ofNat_of_zero_le (show 0 ≤ q by omega)
      have hdq : ((t : Int) - (f : Int)) / (p : Int) = (q : Int) := by rw [hq]; exact Int.mul_ediv_cancel_left _ (by omega)
      have hN : t = f + p * q := by
        have : ((p * q : Nat) : Int) = (p : Int) * (q : Int) := by simp
        omega
      have hp1 : (p : Int) ≤ (t : Int) - (f : Int) := by
        have := Int.mul_le_mul_of_nonneg_left (show (1 : Int) ≤ (q : Int) by omega) (show (0 : Int) ≤ (p : Int) by omega)
        omega
      have hq1 : (q : Int) ≤ (t : Int) - (f : Int) := by
        have := Int.mul_le_mul_of_nonneg_right (show (1 : Int) ≤ (p : Int) by omega) (show (0 : Int) ≤ (q : Int) by omega)
        omega
      have e1 : (f : Int) + (k : Int) * (q : Int) = ((f + k * q : Nat) : Int) := by simp
      have e2 : (f : Int) + ((k : Int) + 1) * (q : Int) = ((f + (k + 1) * q : Nat) : Int) := by simp
      have hkq : (k + 1) * q ≤ p * q := Nat.mul_le_mul_right _ (by omega)
      have b0 : 0 ≤ (k : Int) * (q : Int) := Int.mul_nonneg (by omega) (by omega)
      have b1 : (k : Int) * (q : Int) ≤ 65536 * 65536 := Int.mul_le_mul (by omega) (by omega) (by omega) (by omega)
      have b2 : 0 ≤ ((k : Int) + 1) * (q : Int) := Int.mul_nonneg (by omega) (by omega)
      have b3 : ((k : Int) + 1) * (q : Int) ≤ 65536 * 65536 := Int.mul_le_mul (by omega) (by omega) (by omega) (by omega)
      have HE1 := Lib.hid e1
      have HE2 := Lib.hid e2
      have HS : Hid ((placesL n f (t - f)).countP (inB ((f + k * q : Nat) : Int) ((f + (k + 1) * q : Nat) : Int)) = shareN n p k) := Lib.hid (by
        rw [within_share n f (t - f) (f + k * q) (f + (k + 1) * q) (by omega) (by rw [Nat.add_mul]; omega), show t - f = p * q by omega, show f + k * q - f = k * q by omega, show f + (k + 1) * q - f = (k + 1) * q by omega,
          cnt_part n p q k (by omega) (by omega) (by omega), cnt_part n p q (k + 1) (by omega) (by omega) (by omega)]
        rfl)
      have HL := Lib.hid (placesL_length n f (t - f))
      have hzi : ((q : Int) == 0) = false := by rw [beq_eq_false_iff_ne]; omega
      have hzn : q ≠ 0 := by omega
      rw [Int.toNat_natCast, Int.toNat_natCast, Int.toNat_natCast] at HV
      clear e1 e2 hq h2 hN hkq
      go_enter Try.func12, Try.ntmps12
      go_wp2_with fail
      refine (refMay_any _ _ _ _).mono ?_
      rintro e w' ⟨rfl, rfl⟩
      rw [HM.out]
      go_wp2_with fail
      refine (refOf_any n f (t - f) t w (by omega) (by omega) (by omega)).mono ?_
      rintro e w1 ⟨v, rfl, hv, hb⟩
      obtain ⟨a1, c1, rfl, _, hr1, _⟩ := owns_arg hv
      have HB := Lib.hid hb
      clear hv hb
      go_wp2_with fail
      rw [HE1.out, HE2.out]
      refine (within_any a1 c1 (placesL n f (t - f)) _ _ w1 hr1 (by rw [HL.out]; omega)).mono ?_
      rintro e w2 ⟨rfl, rfl⟩
      rw [HS.out]
      clear hr1
      go_wp2
      go_ret2
      exact ⟨ret_pair HV.out, HB.out⟩
  · have H : Hid (shareV n f t p k = (0, 2)) := Lib.hid (if_neg h)
    by_cases hm : mayB n f t = true
    · have HM := Lib.hid hm
      obtain ⟨m1, m2, m3, m4, m5⟩ := mayB_iff.1 hm
      by_cases h1 : 1 ≤ p
      · by_cases h2 : (t - f) % p = 0
        · have hrem2 : ((t - f) % p != 0) = false := by rw [h2]; rfl
          by_cases h3 : 0 ≤ k
          · have h4 : ¬ k < p := fun g => h (askB_iff.2 ⟨hm, h1, h2, h3, g⟩)
            clear h hm h2
            go_enter Try.func12, Try.ntmps12
            go_wp2_with fail
            refine (refMay_any _ _ _ _).mono ?_
            rintro e w' ⟨rfl, rfl⟩
            rw [HM.out]
            go_wp2
            go_ret2
            exact ⟨ret_pair H.out, Below.refl _ _⟩
          · clear h hm h2
            go_enter Try.func12, Try.ntmps12
            go_wp2_with fail
            refine (refMay_any _ _ _ _).mono ?_
            rintro e w' ⟨rfl, rfl⟩
            rw [HM.out]
            go_wp2
            go_ret2
            exact ⟨ret_pair H.out, Below.refl _ _⟩
        · have hrem2 : ((t - f) % p != 0) = true := by rw [bne_iff_ne]; exact h2
          clear h hm h2
          go_enter Try.func12, Try.ntmps12
          go_wp2_with fail
          refine (refMay_any _ _ _ _).mono ?_
          rintro e w' ⟨rfl, rfl⟩
          rw [HM.out]
          go_wp2
          go_ret2
          exact ⟨ret_pair H.out, Below.refl _ _⟩
      · clear h hm
        go_enter Try.func12, Try.ntmps12
        go_wp2_with fail
        refine (refMay_any _ _ _ _).mono ?_
        rintro e w' ⟨rfl, rfl⟩
        rw [HM.out]
        go_wp2
        go_ret2
        exact ⟨ret_pair H.out, Below.refl _ _⟩
    · have HM : Hid (mayB n f t = false) := Lib.hid (by simpa using hm)
      clear h hm
      go_enter Try.func12, Try.ntmps12
      go_wp2_with fail
      refine (refMay_any _ _ _ _).mono ?_
      rintro e w' ⟨rfl, rfl⟩
      rw [HM.out]
      go_wp2
      go_ret2
      exact ⟨ret_pair H.out, Below.refl _ _⟩

end Go.Proofs.Ytlcagdidhdkpdaa.Spr
