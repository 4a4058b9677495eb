/- Contracts of package win and of the document's answer: heights. -/
import Derived.Test.YtogbkhlbmchjlaaFrac
import Derived.Test.YtogbkhlbmchjlaaWinPlain
import Derived.Test.YtogbkhlbmchjlaaRf
namespace Go.Proofs.Ytogbkhlbmchjlaa.Win
open Go.RowKit Go.Shelf Go.Proofs.Ytogbkhlbmchjlaa Go.Proofs.Ytogbkhlbmchjlaa.Frac

theorem wf64 {n : Int} (h : -9223372036854775808 ≤ n) (h2 : n ≤ 9223372036854775807) : (Lit.int .i64 n).wf = true := by
  simp [Lit.wf, IntKind.min, IntKind.max, IntKind.signed, IntKind.bits]; omega
theorem okB_iff {seg size : Int} : okB seg size = true ↔ 4 ≤ seg ∧ seg ≤ 64 ∧ powB seg = true ∧ seg ≤ size ∧ size ≤ 65536 ∧ powB size = true := by
  unfold okB; simp only [Bool.and_eq_true, decide_eq_true_eq, and_assoc]
theorem fitsB_iff {seg size : Int} : fitsB seg size = true ↔ 4 ≤ seg ∧ seg ≤ 64 ∧ powB seg = true ∧ 1 ≤ size ∧ size ≤ 65536 ∧ size % seg = 0 ∧ powB (size / seg) = true := by
  unfold fitsB; simp only [Bool.and_eq_true, decide_eq_true_eq, and_assoc]

set_option maxRecDepth 100000 in
set_option maxHeartbeats 2000000 in
theorem High_any (seg size : Int) (w : World) : Calls Try.prog 9 #[.int .i64 seg, .int .i64 size] w fun e w' => e = .returned (.tuple #[.int .i64 (highV seg size).1, .int .i64 (highV seg size).2]) ∧ w = w' := by
  by_cases h1 : 4 ≤ seg
  · by_cases h2 : seg ≤ 64
    · by_cases h3 : powB seg = true
      · by_cases h4 : seg ≤ size
        · by_cases h5 : size ≤ 65536
          · by_cases h6 : powB size = true
            · have hok := okB_iff.2 ⟨h1, h2, h3, h4, h5, h6⟩
              have HD : Hid (downV (size / seg) = highV seg size) := Lib.hid (by
                have hq : 1 ≤ size / seg := by rw [Int.le_ediv_iff_mul_le (by omega)]; omega
                rw [show highV seg size = (((highN seg size : Nat) : Int), 0) from if_pos hok]
                exact downV_yes (by omega))
              have hq0 : 0 ≤ size / seg := Int.ediv_nonneg (by omega) (by omega)
              have hq1 : size / seg ≤ size := Int.ediv_le_self _ (by omega)
              have H3 := Lib.hid h3
              have H6 := Lib.hid h6
              clear h3 h6 hok
              go_enter Try.func9, Try.ntmps9
              go_wp2_with fail
              refine (power_any seg _ (wf64 (by omega) (by omega))).mono ?_
              rintro e w' ⟨rfl, rfl⟩
              rw [H3.out]
              go_wp2_with fail
              refine (power_any size _ (wf64 (by omega) (by omega))).mono ?_
              rintro e w' ⟨rfl, rfl⟩
              rw [H6.out]
              go_wp2_with fail
              refine (down_any (size / seg) _ (wf64 (by omega) (by omega))).mono ?_
              rintro e w' ⟨rfl, rfl⟩
              rw [HD.out]
              go_wp2
              go_ret2
              exact ⟨rfl, rfl⟩
            · have H : Hid (highV seg size = (0, 2)) := Lib.hid (if_neg (fun g => by obtain ⟨g1, g2, g3, g4, g5, g6⟩ := okB_iff.1 g; exact absurd g6 h6))
              have H3 := Lib.hid h3
              clear h3
              have H6 : Hid (powB size = false) := Lib.hid (by simpa using h6)
              clear h6
              go_enter Try.func9, Try.ntmps9
              go_wp2_with fail
              refine (power_any seg _ (wf64 (by omega) (by omega))).mono ?_
              rintro e w' ⟨rfl, rfl⟩
              rw [H3.out]
              go_wp2_with fail
              refine (power_any size _ (wf64 (by omega) (by omega))).mono ?_
              rintro e w' ⟨rfl, rfl⟩
              rw [H6.out]
              go_wp2
              go_ret2
              exact ⟨ret_pair H.out, rfl⟩
          · have H : Hid (highV seg size = (0, 2)) := Lib.hid (if_neg (fun g => by obtain ⟨g1, g2, g3, g4, g5, g6⟩ := okB_iff.1 g; exact absurd g5 h5))
            have H3 := Lib.hid h3
            clear h3
            go_enter Try.func9, Try.ntmps9
            go_wp2_with fail
            refine (power_any seg _ (wf64 (by omega) (by omega))).mono ?_
            rintro e w' ⟨rfl, rfl⟩
            rw [H3.out]
            go_wp2
            go_ret2
            exact ⟨ret_pair H.out, rfl⟩
        · have H : Hid (highV seg size = (0, 2)) := Lib.hid (if_neg (fun g => by obtain ⟨g1, g2, g3, g4, g5, g6⟩ := okB_iff.1 g; exact absurd g4 h4))
          have H3 := Lib.hid h3
          clear h3
          go_enter Try.func9, Try.ntmps9
          go_wp2_with fail
          refine (power_any seg _ (wf64 (by omega) (by omega))).mono ?_
          rintro e w' ⟨rfl, rfl⟩
          rw [H3.out]
          go_wp2
          go_ret2
          exact ⟨ret_pair H.out, rfl⟩
      · have H : Hid (highV seg size = (0, 2)) := Lib.hid (if_neg (fun g => by obtain ⟨g1, g2, g3, g4, g5, g6⟩ := okB_iff.1 g; exact absurd g3 h3))
        have H3 : Hid (powB seg = false) := Lib.hid (by simpa using h3)
        clear h3
        go_enter Try.func9, Try.ntmps9
        go_wp2_with fail
        refine (power_any seg _ (wf64 (by omega) (by omega))).mono ?_
        rintro e w' ⟨rfl, rfl⟩
        rw [H3.out]
        go_wp2
        go_ret2
        exact ⟨ret_pair H.out, rfl⟩
    · have H : Hid (highV seg size = (0, 2)) := Lib.hid (if_neg (fun g => by obtain ⟨g1, g2, g3, g4, g5, g6⟩ := okB_iff.1 g; exact absurd g2 h2))
      go_enter Try.func9, Try.ntmps9
      go_wp2
      go_ret2
      exact ⟨ret_pair H.out, rfl⟩
  · have H : Hid (highV seg size = (0, 2)) := Lib.hid (if_neg (fun g => by obtain ⟨g1, g2, g3, g4, g5, g6⟩ := okB_iff.1 g; exact absurd g1 h1))
    go_enter Try.func9, Try.ntmps9
    go_wp2
    go_ret2
    exact ⟨ret_pair H.out, rfl⟩

set_option maxRecDepth 100000 in
set_option maxHeartbeats 2000000 in
theorem fits_any (seg size : Int) (w : World) : Calls Try.prog 23 #[.int .i64 seg, .int .i64 size] w fun e w' => e = .returned (.bool (fitsB seg size)) ∧ w = w' := by
  by_cases h1 : 4 ≤ seg
  · by_cases h2 : seg ≤ 64
    · by_cases h3 : powB seg = true
      · by_cases h4 : 1 ≤ size
        · by_cases h5 : size ≤ 65536
          · by_cases h6 : size % seg = 0
            · by_cases h7 : powB (size / seg) = true
              · have H : Hid (fitsB seg size = true) := Lib.hid (fitsB_iff.2 ⟨h1, h2, h3, h4, h5, h6, h7⟩)
                have hrem : (size % seg == 0) = true := by rw [beq_iff_eq]; exact h6
                have hq0 : 0 ≤ size / seg := Int.ediv_nonneg (by omega) (by omega)
                have hq1 : size / seg ≤ size := Int.ediv_le_self _ (by omega)
                have H3 := Lib.hid h3
                have H7 := Lib.hid h7
                clear h3 h6 h7
                go_enter Try.func23, Try.ntmps23
                go_wp2_with fail
                refine (refPower_any seg _ (wf64 (by omega) (by omega))).mono ?_
                rintro e w' ⟨rfl, rfl⟩
                rw [H3.out]
                go_wp2_with fail
                refine (refPower_any (size / seg) _ (wf64 (by omega) (by omega))).mono ?_
                rintro e w' ⟨rfl, rfl⟩
                rw [H7.out]
                go_wp2
                go_ret
                exact ⟨ret_bool H.out.symm, rfl⟩
              · have H : Hid (fitsB seg size = false) := Lib.hid (by rw [Bool.eq_false_iff]; exact fun g => by obtain ⟨g1, g2, g3, g4, g5, g6, g7⟩ := fitsB_iff.1 g; exact absurd g7 h7)
                have H3 := Lib.hid h3
                clear h3
                have hrem : (size % seg == 0) = true := by rw [beq_iff_eq]; exact h6
                have hq0 : 0 ≤ size / seg := Int.ediv_nonneg (by omega) (by omega)
                have hq1 : size / seg ≤ size := Int.ediv_le_self _ (by omega)
                clear h6
                have H7 : Hid (powB (size / seg) = false) := Lib.hid (by simpa using h7)
                clear h7
                go_enter Try.func23, Try.ntmps23
                go_wp2_with fail
                refine (refPower_any seg _ (wf64 (by omega) (by omega))).mono ?_
                rintro e w' ⟨rfl, rfl⟩
                rw [H3.out]
                go_wp2_with fail
                refine (refPower_any (size / seg) _ (wf64 (by omega) (by omega))).mono ?_
                rintro e w' ⟨rfl, rfl⟩
                rw [H7.out]
                go_wp2
                go_ret
                exact ⟨ret_bool H.out.symm, rfl⟩
            · have H : Hid (fitsB seg size = false) := Lib.hid (by rw [Bool.eq_false_iff]; exact fun g => by obtain ⟨g1, g2, g3, g4, g5, g6, g7⟩ := fitsB_iff.1 g; exact absurd g6 h6)
              have H3 := Lib.hid h3
              clear h3
              have hrem : (size % seg == 0) = false := by rw [beq_eq_false_iff_ne]; exact h6
              go_enter Try.func23, Try.ntmps23
              go_wp2_with fail
              refine (refPower_any seg _ (wf64 (by omega) (by omega))).mono ?_
              rintro e w' ⟨rfl, rfl⟩
              rw [H3.out]
              go_wp2
              go_ret
              exact ⟨ret_bool H.out.symm, rfl⟩
          · have H : Hid (fitsB seg size = false) := Lib.hid (by rw [Bool.eq_false_iff]; exact fun g => by obtain ⟨g1, g2, g3, g4, g5, g6, g7⟩ := fitsB_iff.1 g; exact absurd g5 h5)
            have H3 := Lib.hid h3
            clear h3
            go_enter Try.func23, Try.ntmps23
            go_wp2_with fail
            refine (refPower_any seg _ (wf64 (by omega) (by omega))).mono ?_
            rintro e w' ⟨rfl, rfl⟩
            rw [H3.out]
            go_wp2
            go_ret
            exact ⟨ret_bool H.out.symm, rfl⟩
        · have H : Hid (fitsB seg size = false) := Lib.hid (by rw [Bool.eq_false_iff]; exact fun g => by obtain ⟨g1, g2, g3, g4, g5, g6, g7⟩ := fitsB_iff.1 g; exact absurd g4 h4)
          have H3 := Lib.hid h3
          clear h3
          go_enter Try.func23, Try.ntmps23
          go_wp2_with fail
          refine (refPower_any seg _ (wf64 (by omega) (by omega))).mono ?_
          rintro e w' ⟨rfl, rfl⟩
          rw [H3.out]
          go_wp2
          go_ret
          exact ⟨ret_bool H.out.symm, rfl⟩
      · have H : Hid (fitsB seg size = false) := Lib.hid (by rw [Bool.eq_false_iff]; exact fun g => by obtain ⟨g1, g2, g3, g4, g5, g6, g7⟩ := fitsB_iff.1 g; exact absurd g3 h3)
        have H3 : Hid (powB seg = false) := Lib.hid (by simpa using h3)
        clear h3
        go_enter Try.func23, Try.ntmps23
        go_wp2_with fail
        refine (refPower_any seg _ (wf64 (by omega) (by omega))).mono ?_
        rintro e w' ⟨rfl, rfl⟩
        rw [H3.out]
        go_wp2
        go_ret
        exact ⟨ret_bool H.out.symm, rfl⟩
    · have H : Hid (fitsB seg size = false) := Lib.hid (by rw [Bool.eq_false_iff]; exact fun g => by obtain ⟨g1, g2, g3, g4, g5, g6, g7⟩ := fitsB_iff.1 g; exact absurd g2 h2)
      go_enter Try.func23, Try.ntmps23
      go_wp2
      go_ret
      exact ⟨ret_bool H.out.symm, rfl⟩
  · have H : Hid (fitsB seg size = false) := Lib.hid (by rw [Bool.eq_false_iff]; exact fun g => by obtain ⟨g1, g2, g3, g4, g5, g6, g7⟩ := fitsB_iff.1 g; exact absurd g1 h1)
    go_enter Try.func23, Try.ntmps23
    go_wp2
    go_ret
    exact ⟨ret_bool H.out.symm, rfl⟩

set_option maxHeartbeats 1000000 in
theorem height_any (seg size : Int) (w : World) (h1 : 1 ≤ seg) (h2 : seg ≤ 64) (h3 : 1 ≤ size) (h4 : size ≤ 65536) : Calls Try.prog 24 #[.int .i64 seg, .int .i64 size] w fun e w' => e = .returned (.int .i64 ((highN seg size : Nat) : Int)) ∧ w = w' := by
  have hq0 : 0 ≤ size / seg := Int.ediv_nonneg (by omega) (by omega)
  have hq1 : size / seg ≤ size := Int.ediv_le_self _ (by omega)
  have HN : Hid (highN seg size = (size / seg).toNat.log2) := Lib.hid rfl
  go_enter Try.func24, Try.ntmps24
  go_wp2_with fail
  refine (refLog_any (size / seg) _ (by omega)).mono ?_
  rintro e w' ⟨rfl, rfl⟩
  rw [← HN.out]
  go_wp2
  go_ret
  exact ⟨rfl, rfl⟩

set_option maxHeartbeats 1000000 in
theorem refHigh_any (seg size : Int) (w : World) : Calls Try.prog 10 #[.int .i64 seg, .int .i64 size] w fun e w' => e = .returned (.tuple #[.int .i64 (highV seg size).1, .int .i64 (highV seg size).2]) ∧ w = w' := by
  by_cases h : okB seg size = true
  · have HV := Lib.hid (show highV seg size = (((highN seg size : Nat) : Int), 0) from if_pos h)
    have HF := Lib.hid ((fitsB_ok seg size).trans h)
    obtain ⟨h1, h2, _, h4, h5, _⟩ := okB_iff.1 h
    clear h
    go_enter Try.func10, Try.ntmps10
    go_wp2_with fail
    refine (fits_any _ _ _).mono ?_
    rintro e w' ⟨rfl, rfl⟩
    rw [HF.out]
    go_wp2_with fail
    refine (height_any _ _ _ (by omega) (by omega) (by omega) (by omega)).mono ?_
    rintro e w' ⟨rfl, rfl⟩
    go_wp2
    go_ret2
    exact ⟨ret_pair HV.out, rfl⟩
  · have HV := Lib.hid (show highV seg size = (0, 2) from if_neg h)
    have HF : Hid (fitsB seg size = false) := Lib.hid (by rw [fitsB_ok]; simpa using h)
    clear h
    go_enter Try.func10, Try.ntmps10
    go_wp2_with fail
    refine (fits_any _ _ _).mono ?_
    rintro e w' ⟨rfl, rfl⟩
    rw [HF.out]
    go_wp2
    go_ret2
    exact ⟨ret_pair HV.out, rfl⟩

/-! ### Windows around slots -/
set_option maxHeartbeats 1000000 in
theorem around_any (k a : Nat) (w : World) (hk : k ≤ 22) (ha : a ≤ 65536) :
    Calls Try.prog 26 #[.int .i64 ((2 ^ k : Nat) : Int), .int .i64 a] w fun e w' => e = .returned (.agg #[.int .i64 ((lowW k a : Nat) : Int), .int .i64 ((lowW k a + 2 ^ k : Nat) : Int)]) ∧ Below w.heap.size w w' := by
  have hb := lowW_bits a k (by omega) (by omega)
  have hle := lowW_le k a
  have hp : 2 ^ k ≤ 2 ^ 22 := Nat.pow_le_pow_right (by decide) hk
  have hp0 : 0 < 2 ^ k := Nat.pow_pos (by decide)
  have H : Hid (((lowW k a + 2 ^ k : Nat) : Int) = ((lowW k a : Nat) : Int) + ((2 ^ k : Nat) : Int)) := Lib.hid (by omega)
  generalize lowW k a = x at *
  generalize 2 ^ k = p at *
  go_enter Try.func26, Try.ntmps26
  go_wp2
  rw [H.out]
  exact bodyPost_ret (v := .agg #[.int .i64 x, .int .i64 ((x : Int) + (p : Int))]) (by simp [results, Try.results26, go_sem]) rfl ⟨rfl, (Below.refl _ w).alloc (Nat.le_refl _) _⟩

set_option maxHeartbeats 1000000 in
theorem refOf_any (a h : Nat) (s : Nat) (w : World) (hk : a + h ≤ 22) (hs : s ≤ 65536) :
    Calls Try.prog 28 #[.int .i64 ((2 ^ a : Nat) : Int), .int .i64 h, .int .i64 s] w fun e w' => e = .returned (.tuple #[.int .i64 ((lowW (a + h) s : Nat) : Int), .int .i64 ((lowW (a + h) s + 2 ^ (a + h) : Nat) : Int)]) ∧ w = w' := by
  have hle := lowW_le (a + h) s
  have hp : 2 ^ (a + h) ≤ 2 ^ 22 := Nat.pow_le_pow_right (by decide) hk
  have hp0 : 0 < 2 ^ (a + h) := Nat.pow_pos (by decide)
  have hm : ((2 ^ a : Nat) : Int) * ((2 ^ h : Nat) : Int) = ((2 ^ (a + h) : Nat) : Int) := by rw [Nat.pow_add]; exact (Int.natCast_mul _ _).symm
  have hq : (s : Int) / ((2 ^ (a + h) : Nat) : Int) * ((2 ^ (a + h) : Nat) : Int) = ((lowW (a + h) s : Nat) : Int) := by
    unfold lowW; rw [Int.natCast_mul, Int.natCast_ediv]
  have hq0 : 0 ≤ (s : Int) / ((2 ^ (a + h) : Nat) : Int) := Int.ediv_nonneg (by omega) (by omega)
  have hq1 : (s : Int) / ((2 ^ (a + h) : Nat) : Int) ≤ s := Int.ediv_le_self _ (by omega)
  have H : Hid (((lowW (a + h) s + 2 ^ (a + h) : Nat) : Int) = ((lowW (a + h) s : Nat) : Int) + ((2 ^ (a + h) : Nat) : Int)) := Lib.hid (by omega)
  have HP := Lib.hid (refPow_any h · (by omega))
  generalize lowW (a + h) s = x at *
  generalize 2 ^ (a + h) = p at *
  generalize (2 ^ h : Nat) = ph at *
  generalize (2 ^ a : Nat) = pa at *
  generalize hqq : (s : Int) / (p : Int) = q at *
  have hpn : p ≠ 0 := by omega
  go_enter Try.func28, Try.ntmps28
  go_wp2_with fail
  refine (HP.out _).mono ?_
  rintro e w' ⟨rfl, rfl⟩
  go_wp2
  go_ret2
  exact ⟨ret_ii rfl H.out.symm, rfl⟩

end Go.Proofs.Ytogbkhlbmchjlaa.Win
