/- Contracts of package spread, and of the document's answer: shares; lists of numbers. -/
import Derived.Test.YtlcagdidhdkpdaaSpread3
namespace Go.Proofs.Ytlcagdidhdkpdaa.Spr
open Go.RowKit Go.Shelf Go.Proofs.Ytlcagdidhdkpdaa

def shareN (n p k : Nat) : Nat := ceilD ((k + 1) * n) p - ceilD (k * n) p
def askB (n f t p k : Int) : Bool := mayB n f t && decide (1 ≤ p) && decide ((t - f) % p = 0) && decide (0 ≤ k) && decide (k < p)
def shareV (n f t p k : Int) : Int × Int := if askB n f t p k = true then (((shareN n.toNat p.toNat k.toNat : Nat) : Int), 0) else (0, 2)
theorem askB_iff {n f t p k : Int} : askB n f t p k = true ↔ mayB n f t = true ∧ 1 ≤ p ∧ (t - f) % p = 0 ∧ 0 ≤ k ∧ k < p := by
  unfold askB; simp only [Bool.and_eq_true, decide_eq_true_eq, and_assoc]
theorem shareN_zero (p k : Nat) : shareN 0 p k = 0 := by unfold shareN; simp

set_option maxHeartbeats 1000000 in
theorem first_any (k n p B5 B8 : Nat) (w : World) (h5 : w.cell? ⟨B5, 0, Option.none⟩ = some (.int .i64 n)) (h8 : w.cell? ⟨B8, 0, Option.none⟩ = some (.int .i64 p)) (hk : k ≤ 65536) (hn : n ≤ 65536) (hp : p ≤ 65536) (hp1 : 1 ≤ p) :
    Calls Try.prog 23 #[.int .i64 k, .pointer (some ⟨B5, 0, Option.none⟩), .pointer (some ⟨B8, 0, Option.none⟩)] w fun e w' => e = .returned (.int .i64 ((ceilD (k * n) p : Nat) : Int)) ∧ w = w' := by
  have p0 : 0 ≤ (k : Int) * (n : Int) := Int.mul_nonneg (by omega) (by omega)
  have p1 : (k : Int) * (n : Int) ≤ 65536 * 65536 := Int.mul_le_mul (by omega) (by omega) (by omega) (by omega)
  have H : Hid (((ceilD (k * n) p : Nat) : Int) = ((k : Int) * (n : Int) + (p : Int) - 1) / (p : Int)) := Lib.hid (by
    unfold ceilD
    have e : ((k * n + p - 1 : Nat) : Int) = (k : Int) * (n : Int) + (p : Int) - 1 := by
      have : ((k * n : Nat) : Int) = (k : Int) * (n : Int) := by simp
      omega
    rw [Int.natCast_ediv, e])
  go_enter Try.func23, Try.ntmps23
  go_wp2
  go_ret
  exact ⟨ret_int H.out.symm, rfl⟩

set_option maxRecDepth 100000 in
set_option maxHeartbeats 4000000 in
theorem Share_any (n f t p k : Int) (w : World) : Calls Try.prog 11 #[.int .i64 n, .int .i64 f, .int .i64 t, .int .i64 p, .int .i64 k] w fun e w' => e = .returned (.tuple #[.int .i64 (shareV n f t p k).1, .int .i64 (shareV n f t p k).2]) ∧ Below w.heap.size w w' := by
  have hb2 : Below w.heap.size w ((w.alloc (.cells #[.int .i64 n] 3)).alloc (.cells #[.int .i64 p] 3)) := ((Below.refl _ w).alloc (Nat.le_refl _) _).alloc (by simp) _
  by_cases h : askB n f t p k = true
  · have HV := Lib.hid (show shareV n f t p k = (((shareN n.toNat p.toNat k.toNat : Nat) : Int), 0) from if_pos h)
    obtain ⟨hm, h1, h2, h3, h4⟩ := askB_iff.1 h
    have HM := Lib.hid hm
    obtain ⟨m1, m2, m3, m4, m5⟩ := mayB_iff.1 hm
    have h2' := Int.emod_eq_zero_of_dvd (Int.dvd_of_emod_eq_zero h2)
    have hrem : ((t - f) % p == 0) = true := by rw [h2]; rfl
    have hrem2 : ((t - f) % p != 0) = false := by rw [h2]; rfl
    clear h hm
    by_cases hz : t = f
    · have H0 : Hid (shareV n f t p k = (0, 0)) := Lib.hid (by rw [HV.out, show n.toNat = 0 by omega, shareN_zero]; rfl)
      subst hz
      clear HV h2 h2'
      go_enter Try.func11, Try.ntmps11
      go_wp2_with fail
      refine (may_any _ _ _ _).mono ?_
      rintro e w' ⟨rfl, rfl⟩
      rw [HM.out]
      go_wp2
      go_ret2
      exact ⟨ret_pair H0.out, hb2⟩
    · obtain ⟨n, rfl⟩ := Int.eq_ofNat_of_zero_le m4
      obtain ⟨f, rfl⟩ := Int.eq_ofNat_of_zero_le m1
      obtain ⟨t, rfl⟩ := Int.eq_ofNat_of_zero_le (show 0 ≤ t by omega)
      obtain ⟨p, rfl⟩ := Int.eq_ofNat_of_zero_le (show 0 ≤ p by omega)
      obtain ⟨k, rfl⟩ := Int.eq_ofNat_of_zero_le h3
      have hple : (p : Int) ≤ (t : Int) - (f : Int) := by
        obtain ⟨q, hq⟩ := Int.dvd_of_emod_eq_zero h2
        have hq1 : 1 ≤ q := by
          rcases Int.lt_or_le q 1 with g | g
          · have := Int.mul_le_mul_of_nonneg_left (show q ≤ 0 by omega) (show (0 : Int) ≤ (p : Int) by omega)
            omega
          · exact g
        have := Int.mul_le_mul_of_nonneg_left hq1 (show (0 : Int) ≤ (p : Int) by omega)
        omega
      have hfirst := fun k B5 B8 w h5 h8 hk => first_any k n p B5 B8 w h5 h8 hk (by omega) (by omega) (by omega)
      have HF := Lib.hid hfirst
      have hmono := ceilD_mono (b := p) (show k * n ≤ (k + 1) * n from Nat.mul_le_mul_right _ (by omega))
      have hle : ceilD ((k + 1) * n) p ≤ n := ceilD_le _ _ _ (by omega) (by rw [Nat.mul_comm n]; exact Nat.mul_le_mul_right _ (by omega))
      have HS : Hid (shareN n p k = ceilD ((k + 1) * n) p - ceilD (k * n) p) := Lib.hid rfl
      rw [Int.toNat_natCast, Int.toNat_natCast, Int.toNat_natCast] at HV
      clear hfirst h2 h2'
      have hzi : ((t : Int) == (f : Int)) = false := by rw [beq_eq_false_iff_ne]; exact hz
      go_enter Try.func11, Try.ntmps11
      go_wp2_with fail
      refine (may_any _ _ _ _).mono ?_
      rintro e w' ⟨rfl, rfl⟩
      rw [HM.out]
      go_wp2_with fail
      rw [show (k : Int) + 1 = ((k + 1 : Nat) : Int) by omega]
      refine (HF.out (k + 1) _ _ _ ?_ ?_ (by omega)).mono ?_
      · go_simp
      · go_simp
      rintro e w1 ⟨rfl, rfl⟩
      generalize ceilD ((k + 1) * n) p = c1 at *
      go_wp2_with fail
      refine (HF.out k _ _ _ ?_ ?_ (by omega)).mono ?_
      · go_simp
      · go_simp
      rintro e w1 ⟨rfl, rfl⟩
      generalize ceilD (k * n) p = c2 at *
      go_wp2
      go_ret2
      refine ⟨ret_pair ?_, hb2⟩
      rw [HV.out, HS.out]
      congr 1
      omega
  · have H : Hid (shareV n f t p k = (0, 2)) := Lib.hid (if_neg h)
    by_cases hm : mayB n f t = true
    · have HM := Lib.hid hm
      obtain ⟨m1, m2, m3, m4, m5⟩ := mayB_iff.1 hm
      by_cases h1 : 1 ≤ p
      · by_cases h2 : (t - f) % p = 0
        · have hrem2 : ((t - f) % p != 0) = false := by rw [h2]; rfl
          by_cases h3 : 0 ≤ k
          · have h4 : ¬ k < p := fun g => h (askB_iff.2 ⟨hm, h1, h2, h3, g⟩)
            clear h hm h2
            go_enter Try.func11, Try.ntmps11
            go_wp2_with fail
            refine (may_any _ _ _ _).mono ?_
            rintro e w' ⟨rfl, rfl⟩
            rw [HM.out]
            go_wp2
            go_ret2
            exact ⟨ret_pair H.out, hb2⟩
          · clear h hm h2
            go_enter Try.func11, Try.ntmps11
            go_wp2_with fail
            refine (may_any _ _ _ _).mono ?_
            rintro e w' ⟨rfl, rfl⟩
            rw [HM.out]
            go_wp2
            go_ret2
            exact ⟨ret_pair H.out, hb2⟩
        · have hrem2 : ((t - f) % p != 0) = true := by rw [bne_iff_ne]; exact h2
          clear h hm h2
          go_enter Try.func11, Try.ntmps11
          go_wp2_with fail
          refine (may_any _ _ _ _).mono ?_
          rintro e w' ⟨rfl, rfl⟩
          rw [HM.out]
          go_wp2
          go_ret2
          exact ⟨ret_pair H.out, hb2⟩
      · clear h hm
        go_enter Try.func11, Try.ntmps11
        go_wp2_with fail
        refine (may_any _ _ _ _).mono ?_
        rintro e w' ⟨rfl, rfl⟩
        rw [HM.out]
        go_wp2
        go_ret2
        exact ⟨ret_pair H.out, hb2⟩
    · have HM : Hid (mayB n f t = false) := Lib.hid (by simpa using hm)
      clear h hm
      go_enter Try.func11, Try.ntmps11
      go_wp2_with fail
      refine (may_any _ _ _ _).mono ?_
      rintro e w' ⟨rfl, rfl⟩
      rw [HM.out]
      go_wp2
      go_ret2
      exact ⟨ret_pair H.out, hb2⟩

end Go.Proofs.Ytlcagdidhdkpdaa.Spr
