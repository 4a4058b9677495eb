/- The law SpreadShares: a walk. -/
import Derived.Test.YtlcagdidhdkpdaaSpreadLaws3
namespace Go.Proofs.Ytlcagdidhdkpdaa.Spr
open Go.RowKit Go.Shelf Go.Proofs.Ytlcagdidhdkpdaa

theorem shares_sum (n p k : Nat) (hp : 0 < p) : ceilD (k * n) p + shareN n p k = ceilD ((k + 1) * n) p := by
  unfold shareN
  have := ceilD_mono (b := p) (show k * n ≤ (k + 1) * n from Nat.mul_le_mul_right _ (by omega))
  omega
theorem share_at {n f t p k : Int} (h : askB n f t p k = true) (i : Int) (h0 : 0 ≤ i) (h1 : i ≤ k) : shareV n f t p i = (((shareN n.toNat p.toNat i.toNat : Nat) : Int), 0) := by
  obtain ⟨a1, a2, a3, a4, a5⟩ := askB_iff.1 h
  exact if_pos (askB_iff.2 ⟨a1, a2, a3, h0, by omega⟩)

set_option maxRecDepth 100000 in
set_option maxHeartbeats 4000000 in
theorem shares_walk (n f t p k lo hi q X : Nat) (C S : Nat → Nat) (w : World)
    (HA : Hid (∀ i : Nat, i ≤ k → shareV n f t p i = (((S i : Nat) : Int), 0)))
    (hlo : (n : Int) / (p : Int) = (lo : Int)) (hhi : ((n : Int) + (p : Int) - 1) / (p : Int) = (hi : Int))
    (HQ : Hid (((t : Int) - (f : Int)) / (p : Int) = (q : Int))) (HX : Hid (((k : Int) + 1) * (q : Int) = (X : Int)))
    (HR : Hid (rankV n f t ((f : Int) + (X : Int)) = (((C (k + 1) : Nat) : Int), 0)))
    (HZ : Hid (C 0 = 0)) (HSUM : Hid (∀ i, i ≤ k → C i + S i = C (i + 1))) (HLE : Hid (∀ i, i ≤ k + 1 → C i ≤ 5000)) (HF : Hid (k + 1 = p → C (k + 1) = n))
    (u1 : lo ≤ S k) (u2 : S k ≤ hi) (b1 : n ≤ 5000) (b2 : p ≤ 300) (b3 : k < p) (HB : Hid (f ≤ t ∧ t ≤ 65536 ∧ q ≤ 65536 ∧ X ≤ 65536)) :
    Calls Try.prog 7 #[.int .i64 n, .agg #[.int .i64 f, .int .i64 t], .int .i64 p, .int .i64 k] w fun e w' => e = .returned (.bool true) ∧ Below w.heap.size w w' := by
  have hb0 : Below w.heap.size w (w.alloc (.cells #[.int .i64 f, .int .i64 t] 30)) := (Below.refl _ w).alloc (Nat.le_refl _) _
  have HAK := Lib.hid (HA.out k (Nat.le_refl _))
  have pn : p ≠ 0 := by omega
  have hlh : lo ≤ 5000 ∧ hi ≤ 6000 := by
    constructor
    · have : n / p ≤ n := Nat.div_le_self _ _
      have h2 : ((n / p : Nat) : Int) = (lo : Int) := by rw [← hlo]; rfl
      omega
    · have h2 : ((n : Int) + (p : Int) - 1) / (p : Int) ≤ (n : Int) + (p : Int) - 1 := Int.ediv_le_self _ (by omega)
      omega
  have hsk : S k ≤ 6000 := by omega
  obtain ⟨l1, l2⟩ := hlh
  generalize hs : S k = s at *
  have ud1 : decide (s < lo) = false := decide_eq_false (by omega)
  have ud2 : decide (hi < s) = false := decide_eq_false (by omega)
  have ud3 : decide (p ≤ k) = false := decide_eq_false (by omega)
  clear hs u1 u2
  go_enter Try.func7, Try.ntmps7
  go_wp2_with fail
  refine (alive_any _).mono ?_
  rintro e w1 ⟨rfl, hb1⟩
  have hc1 := cell2 hb1
  have HB1 := Lib.hid (bstep hb0 hb1)
  have hz1 : w.heap.size < w1.heap.size := by have := hb1.size; simp at this; omega
  clear hb1 hb0
  go_wp2_with fail
  (with_reducible refine (Share_is _ _ _ _ _ _ _ w1 HAK.out).mono ?_)
  rintro e w2 ⟨rfl, hb2⟩
  have hc2 := cell3 hc1 hb2 hz1
  have HB2 := Lib.hid (bstep HB1.out hb2)
  have hz2 : w.heap.size < w2.heap.size := Nat.lt_of_lt_of_le hz1 hb2.size
  have HC2 := Lib.hid hc2
  have HZ2 := Lib.hid hz2
  clear hb2 hc1 hz1 hc2 hz2
  go_wp2_with fail
  clear l1 l2 hsk hlo hhi
  go_loopw [12, 13, 14, 15] (fun x i _ _ wr => ∃ j : Nat, j ≤ k + 1 ∧ i = .int .i64 j ∧ x = .int .i64 ((C j : Nat) : Int) ∧ (wr.cell? ⟨w.heap.size, 0, Option.none⟩ = some (.int .i64 f) ∧ wr.cell? ⟨w.heap.size, 1, Option.none⟩ = some (.int .i64 t)) ∧ w.heap.size < wr.heap.size ∧ Below w.heap.size w wr) (fun _ i _ _ _ => k + 1 - (intOf i).toNat)
  case atStart => exact ⟨0, Nat.zero_le _, rfl, by rw [HZ.out]; rfl, HC2.out, HZ2.out, HB2.out⟩
  case round =>
    obtain ⟨j, hj, rfl, rfl, hcr, hzr, hbr⟩ := hrel
    have HBR := Lib.hid hbr
    have HZR := Lib.hid hzr
    clear hbr hzr
    by_cases hlt : j ≤ k
    · have HAJ := Lib.hid (HA.out j hlt)
      have HJ := Lib.hid (HSUM.out j hlt)
      have l1 := HLE.out j (by omega)
      have l2 := HLE.out (j + 1) (by omega)
      rw [← HJ.out] at l2
      go_wp2_with fail
      (with_reducible refine (Share_is _ _ _ _ _ _ _ wr HAJ.out).mono ?_)
      rintro e w3 ⟨rfl, hb3⟩
      have HC3 := Lib.hid (cell3 hcr hb3 HZR.out)
      have HB3 := Lib.hid (bstep HBR.out hb3)
      have HZ3 : Hid (w.heap.size < w3.heap.size) := Lib.hid (Nat.lt_of_lt_of_le HZR.out hb3.size)
      clear hb3 hcr
      generalize C j = c1 at *
      generalize S j = c2 at *
      go_wp2
      go_roundw
      case rel => exact ⟨j + 1, by omega, by go_num, by rw [← HJ.out]; go_num, HC3.out, HZ3.out, HB3.out⟩
      case measure => simp [intOf]; omega
    · obtain rfl : j = k + 1 := by omega
      have l1 := HLE.out (k + 1) (Nat.le_refl _)
      obtain ⟨r1, r2, r3, r4⟩ := HB.out
      have hq := HQ.out
      have hx := HX.out
      generalize C (k + 1) = c1 at *
      go_wp2_with fail
      (with_reducible refine (Rank_is _ _ _ _ _ _ wr HR.out).mono ?_)
      rintro e w3 ⟨rfl, hb3⟩
      have HB3 := Lib.hid (bstep HBR.out hb3)
      clear hb3 hcr hq hx
      by_cases hkp : k + 1 < p
      · have hkp2 : ((k : Int) + 1 < (p : Int)) := by omega
        clear HF
        go_wp2
        go_ret
        exact ⟨by simp, HB3.out⟩
      · have hkp2 : ¬ ((k : Int) + 1 < (p : Int)) := by omega
        have hcn : c1 = n := HF.out (by omega)
        subst hcn
        go_wp2
        go_ret
        exact ⟨by simp, HB3.out⟩

set_option maxRecDepth 100000 in
set_option maxHeartbeats 8000000 in
theorem spreadShares (n f t p k : Int) (wn : (Lit.int .i64 n).wf = true) (wf : (Lit.int .i64 f).wf = true) (wt : (Lit.int .i64 t).wf = true) (wp : (Lit.int .i64 p).wf = true) (wk : (Lit.int .i64 k).wf = true) (w : World) :
    Calls Try.prog 7 #[.int .i64 n, .agg #[.int .i64 f, .int .i64 t], .int .i64 p, .int .i64 k] w fun e w' => e = .returned (.bool true) ∧ Below w.heap.size w w' := by
  clear wn wf wt wp wk
  have hb0 : Below w.heap.size w (w.alloc (.cells #[.int .i64 f, .int .i64 t] 30)) := (Below.refl _ w).alloc (Nat.le_refl _) _
  by_cases hl : 5000 < n ∧ n ≤ 65536
  · obtain ⟨h1, h2⟩ := hl
    go_enter Try.func7, Try.ntmps7
    go_wp2_with fail
    refine (alive_any _).mono ?_
    rintro e w1 ⟨rfl, hb1⟩
    have HB1 := Lib.hid (bstep hb0 hb1)
    clear hb1
    go_wp2
    go_ret
    exact ⟨rfl, HB1.out⟩
  have step : ∀ (hx : (¬ 5000 < n) ∨ (5000 < n ∧ ¬ n ≤ 65536)), Calls Try.prog 7 #[.int .i64 n, .agg #[.int .i64 f, .int .i64 t], .int .i64 p, .int .i64 k] w fun e w' => e = .returned (.bool true) ∧ Below w.heap.size w w' := by
    intro hx
    clear hl
    by_cases hp3 : 300 < p
    · rcases hx with hx | ⟨hx, hx2⟩
      all_goals
        go_enter Try.func7, Try.ntmps7
        go_wp2_with fail
        refine (alive_any _).mono ?_
        rintro e w1 ⟨rfl, hb1⟩
        have HB1 := Lib.hid (bstep hb0 hb1)
        clear hb1
        go_wp2
        go_ret
        exact ⟨rfl, HB1.out⟩
    by_cases ha : askB n f t p k = true
    · have HA := Lib.hid (fun i h0 h1 => share_at ha i h0 h1)
      obtain ⟨hm, a1, a2, a3, a4⟩ := askB_iff.1 ha
      obtain ⟨m1, m2, m3, m4, m5⟩ := mayB_iff.1 hm
      have h5 : ¬ 5000 < n := by
        rcases hx with hx | ⟨hx, hx2⟩
        · exact hx
        · omega
      have HR : Hid (∀ y, f ≤ y → y ≤ t → rankV n f t y = (((cnt n.toNat (t - f).toNat (y - f).toNat : Nat) : Int), 0)) := Lib.hid (fun y h1 h2 => if_pos ⟨hm, h1, h2⟩)
      clear hx ha hm
      obtain ⟨n, rfl⟩ := Int.eq_ofNat_of_zero_le m4
      obtain ⟨f, rfl⟩ := Int.eq_ofNat_of_zero_le m1
      obtain ⟨t, rfl⟩ := Int.eq_ofNat_of_zero_le (show 0 ≤ t by omega)
      obtain ⟨p, rfl⟩ := Int.eq_ofNat_of_zero_le (show 0 ≤ p by omega)
      obtain ⟨k, rfl⟩ := Int.eq_ofNat_of_zero_le a3
      obtain ⟨q, hq⟩ := Int.dvd_of_emod_eq_zero a2
      have hq0 : 0 ≤ q := by
        rcases Int.lt_or_le q 0 with g | g
        · have := Int.mul_lt_mul_of_pos_left g (show (0 : Int) < (p : Int) by omega)
          omega
        · exact g
      obtain ⟨q, rfl⟩ := Int.eq_ofNat_of_zero_le hq0
      have hpq : ((p * q : Nat) : Int) = (p : Int) * (q : Int) := by simp
      have hdq : ((t : Int) - (f : Int)) / (p : Int) = (q : Int) := by rw [hq]; exact Int.mul_ediv_cancel_left _ (by omega)
      have hkq : (k + 1) * q ≤ p * q := Nat.mul_le_mul_right _ (by omega)
      have e2 : (f : Int) + ((k : Int) + 1) * (q : Int) = ((f + (k + 1) * q : Nat) : Int) := by simp
      have hn0 : q = 0 → n = 0 := fun h => by subst h; simp at hq; omega
      have HC : Hid (rankV n f t ((f + (k + 1) * q : Nat) : Int) = (((ceilD ((k + 1) * n) p : Nat) : Int), 0)) := Lib.hid (by
        rw [HR.out _ (by omega) (by omega), Int.toNat_natCast, show ((t : Int) - (f : Int)).toNat = p * q by omega, show (((f + (k + 1) * q : Nat) : Int) - (f : Int)).toNat = (k + 1) * q by omega]
        by_cases hz : q = 0
        · rw [hn0 hz, Nat.mul_zero, ceilD_zero _ (by omega)]; rfl
        · rw [cnt_part n p q (k + 1) (by omega) (by omega) (by omega)])
      have HSB := Lib.hid (share_bounds n p k (by omega))
      have HSUM := Lib.hid (fun i => shares_sum n p i (by omega))
      have HZ : Hid (ceilD (0 * n) p = 0) := Lib.hid (by rw [Nat.zero_mul]; exact ceilD_zero p (by omega))
      have HF : Hid (k + 1 = p → ceilD ((k + 1) * n) p = n) := Lib.hid (fun h => by rw [h]; exact ceilD_full n p (by omega))
      have HLE : Hid (∀ i, i ≤ k + 1 → ceilD (i * n) p ≤ 5000) := Lib.hid (fun i hi => Nat.le_trans (ceilD_le (i * n) p n (by omega) (by rw [Nat.mul_comm n]; exact Nat.mul_le_mul_right _ (by omega))) (by omega))
      have hq1 : (q : Int) ≤ 65536 := by
        have := Int.mul_le_mul_of_nonneg_right (show (1 : Int) ≤ (p : Int) by omega) (show (0 : Int) ≤ (q : Int) by omega)
        omega
      have hd1 : (n : Int) / (p : Int) = ((n / p : Nat) : Int) := by simp
      have hd2 : ((n : Int) + (p : Int) - 1) / (p : Int) = ((ceilD n p : Nat) : Int) := by
        unfold ceilD
        rw [Int.natCast_ediv]; congr 1; omega
      obtain ⟨g1, g2⟩ := HSB.out
      refine shares_walk n f t p k (n / p) (ceilD n p) q ((k + 1) * q) (fun i => ceilD (i * n) p) (fun i => shareN n p i) w (Lib.hid fun i hi => ?_) hd1 hd2 (Lib.hid hdq) (Lib.hid (by simp)) (Lib.hid ?_) HZ (Lib.hid fun i _ => HSUM.out i) HLE HF g1 g2 (by omega) (by omega) (by omega) (Lib.hid (by omega))
      · have := HA.out i (by omega) (by omega)
        rwa [Int.toNat_natCast, Int.toNat_natCast, Int.toNat_natCast] at this
      · have := HC.out
        rwa [Int.natCast_add] at this
    · have HV := Lib.hid (show shareV n f t p k = (0, 2) from if_neg ha)
      clear ha
      rcases hx with hx | ⟨hx, hx2⟩
      all_goals
        go_enter Try.func7, Try.ntmps7
        go_wp2_with fail
        refine (alive_any _).mono ?_
        rintro e w1 ⟨rfl, hb1⟩
        have hc1 := cell2 hb1
        have HB1 := Lib.hid (bstep hb0 hb1)
        have hz1 : w.heap.size < w1.heap.size := by have := hb1.size; simp at this; omega
        clear hb1
        go_wp2_with fail
        (with_reducible refine (Share_is _ _ _ _ _ _ _ w1 HV.out).mono ?_)
        rintro e w2 ⟨rfl, hb2⟩
        have HB2 := Lib.hid (bstep HB1.out hb2)
        clear hb2 hc1
        go_wp2
        go_ret
        exact ⟨rfl, HB2.out⟩
  by_cases h5 : 5000 < n
  · exact step (.inr ⟨h5, fun g => hl ⟨h5, g⟩⟩)
  · exact step (.inl h5)

end Go.Proofs.Ytlcagdidhdkpdaa.Spr
