/- The laws SpreadRises and SpreadShares: walks. -/
import Derived.Test.YtlcagdidhdkpdaaSpreadLaws2
namespace Go.Proofs.Ytlcagdidhdkpdaa.Spr
open Go.RowKit Go.Shelf Go.Proofs.Ytlcagdidhdkpdaa

theorem placesL_getD (n f d k : Nat) (h : k < n) : (placesL n f d).getD k 0 = ((place n f d k : Nat) : Int) := by
  unfold placesL upto
  simp [List.getD_eq_getElem?_getD, h]
theorem place_zero (n f d : Nat) : place n f d 0 = f := by unfold place; simp
theorem place_last (n f d : Nat) (h : 0 < n) : place n f d n = f + d := by unfold place; rw [last_place d n h]
theorem place_step (n f d k : Nat) (h : 0 < n) : place n f d k + d / n ≤ place n f d (k + 1) ∧ place n f d (k + 1) ≤ place n f d k + (d + n - 1) / n := by
  have := step_bounds d n k h
  unfold place
  generalize k * d / n = x at *
  generalize (k + 1) * d / n = y at *
  omega
theorem places_rise (n f d : Nat) (h : n ≤ d) : risesB (placesL n f d) = true := by
  rw [risesB_iff, placesL_length]
  intro i hi
  rw [placesL_getD _ _ _ _ (by omega), placesL_getD _ _ _ _ hi]
  have := (place_step n f d i (by omega)).1
  have : 1 ≤ d / n := by rw [Nat.le_div_iff_mul_le (by omega)]; omega
  omega

set_option maxRecDepth 100000 in
set_option maxHeartbeats 4000000 in
theorem spreadRises (n f t : Int) (wn : (Lit.int .i64 n).wf = true) (wf : (Lit.int .i64 f).wf = true) (wt : (Lit.int .i64 t).wf = true) (w : World) :
    Calls Try.prog 6 #[.int .i64 n, .int .i64 f, .int .i64 t] w fun e w' => e = .returned (.bool true) ∧ Below w.heap.size w w' := by
  clear wn wf wt
  by_cases hl : 5000 < n ∧ n ≤ 65536
  · obtain ⟨h1, h2⟩ := hl
    go_enter Try.func6, Try.ntmps6
    go_wp2_with fail
    refine (alive_any w).mono ?_
    rintro e w1 ⟨rfl, hb1⟩
    go_wp2
    go_ret
    exact ⟨rfl, hb1⟩
  by_cases hm : mayB n f t = true
  · have HV := Lib.hid (show placesV n f t = (placesL n.toNat f.toNat (t - f).toNat, 0) from if_pos hm)
    obtain ⟨m1, m2, m3, m4, m5⟩ := mayB_iff.1 hm
    have h5 : ¬ 5000 < n := fun g => hl ⟨g, by omega⟩
    clear hl hm
    obtain ⟨n, rfl⟩ := Int.eq_ofNat_of_zero_le m4
    obtain ⟨f, rfl⟩ := Int.eq_ofNat_of_zero_le m1
    obtain ⟨t, rfl⟩ := Int.eq_ofNat_of_zero_le (show 0 ≤ t by omega)
    obtain ⟨d, hd⟩ : ∃ d, t = f + d := ⟨t - f, by omega⟩
    rw [Int.toNat_natCast, Int.toNat_natCast, show ((t : Int) - (f : Int)).toNat = d by omega] at HV
    have hdi : (t : Int) - (f : Int) = (d : Int) := by omega
    have HL := Lib.hid (placesL_length n f d)
    have HR := Lib.hid (places_rise n f d (by omega))
    have HD := Lib.hid hd
    clear hd
    by_cases hz : n = 0
    · have hz2 : ((n : Int) == 0) = true := by rw [hz]; rfl
      have hnn : (((placesL n f d).length : Int) != (n : Int)) = false := by rw [HL.out]; simp
      clear hz
      go_enter Try.func6, Try.ntmps6
      go_wp2_with fail
      refine (alive_any w).mono ?_
      rintro e w1 ⟨rfl, hb1⟩
      have HB1 := Lib.hid hb1
      clear hb1
      go_wp2_with fail
      (with_reducible refine (Places_is _ _ _ _ _ w1 HV.out).mono ?_)
      rintro e w2 ⟨a2, c2, rfl, hr2, hb2⟩
      have HB2 := Lib.hid (bstep HB1.out hb2)
      clear hb2 hr2
      rw [HL.out]
      go_wp2
      go_ret
      exact ⟨rfl, HB2.out⟩
    · have hz2 : ((n : Int) == 0) = false := by rw [beq_eq_false_iff_ne]; omega
      have n2 : n ≠ 0 := hz
      have n1 : (n : Int) ≠ 0 := by omega
      have hlo : (d : Int) / (n : Int) = ((d / n : Nat) : Int) := by simp
      have hhi : ((d : Int) + (n : Int) - 1) / (n : Int) = (((d + n - 1) / n : Nat) : Int) := by
        rw [Int.natCast_ediv]; congr 1; omega
      have hlo2 : (d : Int).tdiv (n : Int) = ((d / n : Nat) : Int) := by rw [Int.tdiv_eq_ediv_of_nonneg (by omega)]; exact hlo
      have hhi2 : ((d : Int) + (n : Int) - 1).tdiv (n : Int) = (((d + n - 1) / n : Nat) : Int) := by rw [Int.tdiv_eq_ediv_of_nonneg (by omega)]; exact hhi
      have hq1 : d / n ≤ d := Nat.div_le_self _ _
      have hq2 : (d + n - 1) / n ≤ d + n := Nat.le_trans (Nat.div_le_self _ _) (by omega)
      have HST := Lib.hid (fun k => place_step n f d k (by omega))
      have HP0 := Lib.hid (place_zero n f d)
      have HPN := Lib.hid (place_last n f d (by omega))
      have HG := Lib.hid (fun k h => placesL_getD n f d k h)
      clear hlo hhi hz
      generalize d / n = lo at *
      generalize (d + n - 1) / n = hi at *
      have v1 : IntKind.i64.wrap (d : Int) = (d : Int) := by rw [IntKind.wrap_i64]; omega
      have v2 : IntKind.i64.wrap (lo : Int) = (lo : Int) := by rw [IntKind.wrap_i64]; omega
      have v3 : IntKind.i64.wrap ((d : Int) + (n : Int)) = (d : Int) + (n : Int) := by rw [IntKind.wrap_i64]; omega
      have v4 : IntKind.i64.wrap ((d : Int) + (n : Int) - 1) = (d : Int) + (n : Int) - 1 := by rw [IntKind.wrap_i64]; omega
      have v5 : IntKind.i64.wrap (hi : Int) = (hi : Int) := by rw [IntKind.wrap_i64]; omega
      go_enter Try.func6, Try.ntmps6
      go_wp2_with fail
      refine (alive_any w).mono ?_
      rintro e w1 ⟨rfl, hb1⟩
      have HB1 := Lib.hid hb1
      clear hb1
      go_wp2_with fail
      (with_reducible refine (Places_is _ _ _ _ _ w1 HV.out).mono ?_)
      rintro e w2 ⟨a2, c2, rfl, hr2, hb2⟩
      have HB2 := Lib.hid (bstep HB1.out hb2)
      have HR2 := Lib.hid hr2
      rw [HL.out]
      clear hb2 hr2
      have hnn : ((n : Int) != (n : Int)) = false := by simp
      go_wp2
      refine still_lit mixed (by kernel_rfl) ?_
      repeat still_step
      refine wpStill_nil ?_
      clear v1 v2 v3 v4 v5 hlo2 hhi2 hnn
      have HB3 := Lib.hid HB2.out.drew
      have HR3 : Hid (Rd .i64 w2.drew a2 (placesL n f d)) := Lib.hid (HR2.out.mono (Below.refl _ _).drew (Nat.le_refl _))
      generalize w2.drew = w3 at *
      go_wp2
      go_loop [12, 13] (fun i _ => ∃ k : Nat, k ≤ n ∧ i = .int .i64 k) (fun i _ => n - (intOf i).toNat)
      case atStart => exact ⟨0, Nat.zero_le _, rfl⟩
      case round =>
        obtain ⟨k, hk, rfl⟩ := hrel
        by_cases hlt : k < n
        · obtain ⟨b, o, rfl, c1⟩ := Rd.at HR3.out (Below.refl _ _) (Nat.le_refl _) (show k < (placesL n f d).length by rw [HL.out]; exact hlt)
          rw [HG.out k hlt] at c1
          obtain ⟨s1, s2⟩ := HST.out k
          by_cases hlt2 : k + 1 < n
          · obtain ⟨b', o', e', c2'⟩ := Rd.at HR3.out (Below.refl _ _) (Nat.le_refl _) (show k + 1 < (placesL n f d).length by rw [HL.out]; exact hlt2)
            cases e'
            rw [HG.out (k + 1) hlt2] at c2'
            generalize place n f d k = x at *
            generalize place n f d (k + 1) = y at *
            have hyx : ¬ (y : Int) - (x : Int) < (lo : Int) := by omega
            have hyx2 : ¬ (hi : Int) < (y : Int) - (x : Int) := by omega
            go_wp2
            go_round
            case rel => exact ⟨k + 1, by omega, by go_num⟩
            case measure => simp [intOf]; omega
          · have hkn : k + 1 = n := by omega
            rw [hkn, HPN.out] at s1 s2
            generalize place n f d k = x at *
            have hyx : ¬ (t : Int) - (x : Int) < (lo : Int) := by omega
            have hyx2 : ¬ (hi : Int) < (t : Int) - (x : Int) := by omega
            clear hkn s1 s2
            go_wp2
            go_round
            case rel => exact ⟨k + 1, by omega, by go_num⟩
            case measure => simp [intOf]; omega
        · obtain rfl : k = n := by omega
          obtain ⟨b, o, rfl, c1⟩ := Rd.at HR3.out (Below.refl _ _) (Nat.le_refl _) (show 0 < (placesL k f d).length by rw [HL.out]; omega)
          rw [HG.out 0 (by omega), HP0.out, Nat.add_zero] at c1
          have hk0 : 0 < k := by omega
          have hrs := rises_any (some ⟨b, o, Option.none⟩) c2 (placesL k f d) w3 HR3.out (by rw [HL.out]; omega)
          rw [HL.out, HR.out] at hrs
          have HRS := Lib.hid hrs
          clear hrs
          go_wp2_with fail
          refine HRS.out.mono ?_
          rintro e w4 ⟨rfl, hb4⟩
          have HB4 := Lib.hid (bstep HB3.out hb4)
          clear hb4 c1
          go_wp2
          go_ret
          exact ⟨rfl, HB4.out⟩
  · have HV := Lib.hid (show placesV n f t = ([], 2) from if_neg hm)
    clear hm
    have step : ∀ (hx : (¬ 5000 < n) ∨ (5000 < n ∧ ¬ n ≤ 65536)), Calls Try.prog 6 #[.int .i64 n, .int .i64 f, .int .i64 t] w fun e w' => e = .returned (.bool true) ∧ Below w.heap.size w w' := by
      intro hx
      clear hl
      rcases hx with hx | ⟨hx, hx2⟩
      all_goals
        go_enter Try.func6, Try.ntmps6
        go_wp2_with fail
        refine (alive_any w).mono ?_
        rintro e w1 ⟨rfl, hb1⟩
        have HB1 := Lib.hid hb1
        clear hb1
        go_wp2_with fail
        (with_reducible refine (Places_is _ _ _ _ _ w1 HV.out).mono ?_)
        rintro e w2 ⟨a2, c2, rfl, hr2, hb2⟩
        have HB2 := Lib.hid (bstep HB1.out hb2)
        clear hb2 hr2
        go_wp2
        go_ret
        exact ⟨rfl, HB2.out⟩
    by_cases h5 : 5000 < n
    · exact step (.inr ⟨h5, fun g => hl ⟨h5, g⟩⟩)
    · exact step (.inl h5)

end Go.Proofs.Ytlcagdidhdkpdaa.Spr
