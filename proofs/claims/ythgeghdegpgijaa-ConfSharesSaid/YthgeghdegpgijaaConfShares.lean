/- The walk of the law ConfShares. -/
import Derived.Test.YthgeghdegpgijaaConfLaws2
namespace Go.Proofs.Ythgeghdegpgijaa.Conf
open Go.RowKit Go.Sort Go.Proofs.Ythgeghdegpgijaa Go.Proofs.Ythgeghdegpgijaa.Frac

theorem wf_of3 (n : Int) (h0 : -9223372036854775808 ≤ n) (h1 : n ≤ 9223372036854775807) : (Lit.int .i64 n).wf = true := by
  simp [Lit.wf, IntKind.min, IntKind.max, IntKind.signed, IntKind.bits]; omega

set_option maxRecDepth 100000 in
set_option maxHeartbeats 8000000 in
theorem shares_early (c : Cfg) (size g h n : Int) (W : c.Wf) (ws : (Lit.int .i64 size).wf = true) (w : World) (e : Int) (many few : Bool) (h1 : fullV c size g n = (many, e)) (h2 : sparseV c size g n = (few, e)) (hway : (e ≠ 0 ∧ many = false ∧ few = false) ∨ (e = 0 ∧ (h < 0 ∨ g < h ∨ 20 < g))) :
    Calls Try.prog 7 #[.agg #[.int .u8 c.tag, .int .i64 c.most, .int .i64 c.seg, .int .i64 c.least, .int .i64 c.den, .int .i64 c.ll, .int .i64 c.rl, .int .i64 c.rh, .int .i64 c.lh], .int .i64 size, .agg #[.int .i64 g, .int .i64 h], .int .i64 n] w fun e w' => e = .returned (.bool true) ∧ Below w.heap.size w w' := by
  have H1 := Lib.hid (fun w => full_is c size g n w W ws _ _ h1)
  have H2 := Lib.hid (fun w => sparse_is c size g n w W ws _ _ h2)
  clear h1 h2 W ws
  have hw2 : ((e == 0) = false ∧ (e != 0) = true ∧ many = false ∧ few = false) ∨ (e = 0 ∧ h < 0) ∨ (e = 0 ∧ ¬ h < 0 ∧ g < h) ∨ (e = 0 ∧ ¬ h < 0 ∧ ¬ g < h ∧ 20 < g) := by
    rcases hway with ⟨a, b, c⟩ | ⟨a, b⟩
    · left; simp [a, b, c]
    · right; omega
  clear hway
  rcases hw2 with ⟨q1, q2, rfl, rfl⟩ | ⟨rfl, q1⟩ | ⟨rfl, q1, q2⟩ | ⟨rfl, q1, q2, q3⟩
  all_goals
    go_enter Try.func7, Try.ntmps7
    go_wp2_with fail
    refine (alive_any _).mono ?_
    rintro e w1 ⟨rfl, hb2⟩
    have hl0 : w1.cell? ⟨w.heap.size + 1, 0, Option.none⟩ = some (.int .i64 g) := by rw [hb2.cell (p := ⟨w.heap.size + 1, 0, Option.none⟩) (by simp)]; go_simp
    have hl1 : w1.cell? ⟨w.heap.size + 1, 1, Option.none⟩ = some (.int .i64 h) := by rw [hb2.cell (p := ⟨w.heap.size + 1, 1, Option.none⟩) (by simp)]; go_simp
    have hb : Below (w.heap.size + 1) (w.alloc (.cells #[.int .u8 c.tag, .int .i64 c.most, .int .i64 c.seg, .int .i64 c.least, .int .i64 c.den, .int .i64 c.ll, .int .i64 c.rl, .int .i64 c.rh, .int .i64 c.lh] 23)) w1 := ((Below.refl _ _).alloc (by simp) _).trans (hb2.mono (by simp))
    clear hb2
    obtain ⟨k0, k1, k2, k3, k4, k5, k6, k7, k8⟩ := cells9 hb
    go_wp2_with fail
    go_quiet (fail)
    replace hb := below_drewN hb nq
    clear hl0 hl1 k0 k1 k2 k3 k4 k5 k6 k7 k8
    obtain ⟨k0, k1, k2, k3, k4, k5, k6, k7, k8⟩ := cells9 hb
    go_wp2_with fail
    refine (H1.out _).mono ?_
    rintro e w' ⟨rfl, hb2⟩
    replace hb := lawStep hb hb2
    clear hb2 k0 k1 k2 k3 k4 k5 k6 k7 k8
    obtain ⟨k0, k1, k2, k3, k4, k5, k6, k7, k8⟩ := cells9 hb
    go_wp2_with fail
    refine (H2.out _).mono ?_
    rintro e w' ⟨rfl, hb2⟩
    replace hb := lawStep hb hb2
    clear hb2 k0 k1 k2 k3 k4 k5 k6 k7 k8
    obtain ⟨k0, k1, k2, k3, k4, k5, k6, k7, k8⟩ := cells9 hb
    go_wp2
    go_ret
    exact ⟨rfl, box_below hb⟩

set_option maxRecDepth 100000 in
set_option maxHeartbeats 8000000 in
theorem shares_late (c : Cfg) (size n : Int) (b d : Nat) (W : c.Wf) (ws : (Lit.int .i64 size).wf = true) (w : World) (many few up down : Bool) (mu md P : Int) (h1 : fullV c size ((b : Int) + d) n = (many, 0)) (h2 : sparseV c size ((b : Int) + d) n = (few, 0)) (hbd : b + d ≤ 14) (hP : wrap64 ((2 : Int) ^ d) = P) (P1 : 1 ≤ P) (P2 : P ≤ 16384) (n0 : 0 ≤ n) (n1 : n ≤ 65536)
    (hu : fullV c size b mu = (up, 0)) (hd : sparseV c size b md = (down, 0)) (e3 : IntKind.i64.wrap ((n + P - 1).tdiv P) = mu) (e4 : IntKind.i64.wrap (n.tdiv P) = md) (hu2 : many = false ∨ up = true) (hd2 : few = false ∨ down = true) :
    Calls Try.prog 7 #[.agg #[.int .u8 c.tag, .int .i64 c.most, .int .i64 c.seg, .int .i64 c.least, .int .i64 c.den, .int .i64 c.ll, .int .i64 c.rl, .int .i64 c.rh, .int .i64 c.lh], .int .i64 size, .agg #[.int .i64 ((b : Int) + d), .int .i64 b], .int .i64 n] w fun e w' => e = .returned (.bool true) ∧ Below w.heap.size w w' := by
  have H1 := Lib.hid (fun w => full_is c size ((b : Int) + d) n w W ws _ _ h1)
  have H2 := Lib.hid (fun w => sparse_is c size ((b : Int) + d) n w W ws _ _ h2)
  have H3 := Lib.hid (fun w => full_is c size b mu w W ws _ _ hu)
  have H4 := Lib.hid (fun w => sparse_is c size b md w W ws _ _ hd)
  have E := Lib.hid (show IntKind.i64.wrap (n + P) = n + P ∧ IntKind.i64.wrap (n + P - 1) = n + P - 1 from ⟨IntWalk.i64_in _ (by omega), IntWalk.i64_in _ (by omega)⟩)
  have E3 := Lib.hid e3
  have E4 := Lib.hid e4
  have hP0 : ¬ P = 0 := by omega
  have hP' : wrap64 ((2 : Int) ^ (b + d - b)) = P := by rw [show b + d - b = d by omega]; exact hP
  clear h1 h2 hu hd W ws e3 e4
  go_enter Try.func7, Try.ntmps7
  go_wp2_with fail
  refine (alive_any _).mono ?_
  rintro e w1 ⟨rfl, hb2⟩
  have hl0 : w1.cell? ⟨w.heap.size + 1, 0, Option.none⟩ = some (.int .i64 ((b : Int) + d)) := by rw [hb2.cell (p := ⟨w.heap.size + 1, 0, Option.none⟩) (by simp)]; go_simp
  have hl1 : w1.cell? ⟨w.heap.size + 1, 1, Option.none⟩ = some (.int .i64 b) := by rw [hb2.cell (p := ⟨w.heap.size + 1, 1, Option.none⟩) (by simp)]; go_simp
  have hb : Below (w.heap.size + 1) (w.alloc (.cells #[.int .u8 c.tag, .int .i64 c.most, .int .i64 c.seg, .int .i64 c.least, .int .i64 c.den, .int .i64 c.ll, .int .i64 c.rl, .int .i64 c.rh, .int .i64 c.lh] 23)) w1 := ((Below.refl _ _).alloc (by simp) _).trans (hb2.mono (by simp))
  clear hb2
  obtain ⟨k0, k1, k2, k3, k4, k5, k6, k7, k8⟩ := cells9 hb
  go_wp2_with fail
  go_quiet (fail)
  replace hb := below_drewN hb nq
  clear hl0 hl1 k0 k1 k2 k3 k4 k5 k6 k7 k8
  obtain ⟨k0, k1, k2, k3, k4, k5, k6, k7, k8⟩ := cells9 hb
  go_wp2_with fail
  refine (H1.out _).mono ?_
  rintro e w' ⟨rfl, hb2⟩
  replace hb := lawStep hb hb2
  clear hb2 k0 k1 k2 k3 k4 k5 k6 k7 k8
  obtain ⟨k0, k1, k2, k3, k4, k5, k6, k7, k8⟩ := cells9 hb
  go_wp2_with fail
  refine (H2.out _).mono ?_
  rintro e w' ⟨rfl, hb2⟩
  replace hb := lawStep hb hb2
  clear hb2 k0 k1 k2 k3 k4 k5 k6 k7 k8
  obtain ⟨k0, k1, k2, k3, k4, k5, k6, k7, k8⟩ := cells9 hb
  go_wp2_with fail
  obtain ⟨e1, e2⟩ := E.out
  have e3 := E3.out
  have e4 := E4.out
  refine region_qb (w.alloc (.cells #[.int .u8 c.tag, .int .i64 c.most, .int .i64 c.seg, .int .i64 c.least, .int .i64 c.den, .int .i64 c.ll, .int .i64 c.rl, .int .i64 c.rh, .int .i64 c.lh] 23)) (w.heap.size + 1) (hb) mixed (by kernel_rfl) fun w5 hB => ?_
  obtain ⟨c0, c1, c2, c3, c4, c5, c6, c7, c8⟩ := cells9 hB
  have k0 := cell_regrown c0; have k1 := cell_regrown c1; have k2 := cell_regrown c2; have k3 := cell_regrown c3; have k4 := cell_regrown c4; have k5 := cell_regrown c5; have k6 := cell_regrown c6; have k7 := cell_regrown c7; have k8 := cell_regrown c8
  clear c0 c1 c2 c3 c4 c5 c6 c7 c8
  repeat (first | go_big_quiet_skip | quiet_step (exact Calls.regrown_of (H3.out _)))
  refine wpQuiet_nil ?_
  intro _ hw'
  obtain ⟨⟨dq, osq⟩, hw''⟩ := hw'
  subst hw''
  replace hB := hB.trans ((below_regrown w5 dq osq).mono (by have := hB.size; simp at this; omega))
  clear k0 k1 k2 k3 k4 k5 k6 k7 k8
  clear hb
  have hb := hB
  clear hB
  go_wp2_with fail
  refine region_qb (w.alloc (.cells #[.int .u8 c.tag, .int .i64 c.most, .int .i64 c.seg, .int .i64 c.least, .int .i64 c.den, .int .i64 c.ll, .int .i64 c.rl, .int .i64 c.rh, .int .i64 c.lh] 23)) (w.heap.size + 1) (hb) mixed (by kernel_rfl) fun w5 hB => ?_
  obtain ⟨c0, c1, c2, c3, c4, c5, c6, c7, c8⟩ := cells9 hB
  have k0 := cell_regrown c0; have k1 := cell_regrown c1; have k2 := cell_regrown c2; have k3 := cell_regrown c3; have k4 := cell_regrown c4; have k5 := cell_regrown c5; have k6 := cell_regrown c6; have k7 := cell_regrown c7; have k8 := cell_regrown c8
  clear c0 c1 c2 c3 c4 c5 c6 c7 c8
  repeat (first | go_big_quiet_skip | quiet_step (exact Calls.regrown_of (H4.out _)))
  refine wpQuiet_nil ?_
  intro _ hw'
  obtain ⟨⟨dq, osq⟩, hw''⟩ := hw'
  subst hw''
  replace hB := hB.trans ((below_regrown w5 dq osq).mono (by have := hB.size; simp at this; omega))
  clear k0 k1 k2 k3 k4 k5 k6 k7 k8
  clear hb e1 e2 e3 e4
  cases many <;> cases few <;> cases up <;> cases down <;> first | (exfalso; simp at hu2 hd2; done) | skip
  all_goals
    clear hu2 hd2
    go_wp2
    go_ret
    exact ⟨rfl, box_below hB⟩

theorem div_bounds {n P : Int} (n0 : 0 ≤ n) (hP : 1 ≤ P) : (n / P) * P ≤ n ∧ n < (n / P + 1) * P ∧ 0 ≤ n / P ∧ n / P ≤ n := by
  have h1 := Int.ediv_mul_le n (b := P) (by omega)
  have h2 := Int.lt_ediv_add_one_mul_self n (show 0 < P by omega)
  have h3 := Int.ediv_nonneg n0 (show 0 ≤ P by omega)
  have h4 := Int.ediv_le_self P n0
  exact ⟨h1, h2, h3, h4⟩

theorem confShares (c : Cfg) (size g h n : Int) (W : c.Wf) (ws : (Lit.int .i64 size).wf = true) (_wg : (Lit.int .i64 g).wf = true) (_wh : (Lit.int .i64 h).wf = true) (_wn : (Lit.int .i64 n).wf = true) (w : World) :
    Calls Try.prog 7 #[.agg #[.int .u8 c.tag, .int .i64 c.most, .int .i64 c.seg, .int .i64 c.least, .int .i64 c.den, .int .i64 c.ll, .int .i64 c.rl, .int .i64 c.rh, .int .i64 c.lh], .int .i64 size, .agg #[.int .i64 g, .int .i64 h], .int .i64 n] w fun e w' => e = .returned (.bool true) ∧ Below w.heap.size w w' := by
  rcases askedV_cases c size g n with ⟨e, he, hn⟩ | ⟨H, a, hA, hH, rfl, ha, n0, n1⟩
  · exact shares_early c size g h n W ws w e false false (fullV_err he hn) (sparseV_err he hn) (.inl ⟨hn, rfl, rfl⟩)
  · have hF := highV_full hH
    obtain ⟨ho, F, hp, k, rfl, e2, e3, e4⟩ := hF
    by_cases hr : h < 0 ∨ (a : Int) < h
    · exact shares_early c size a h n W ws w 0 _ _ (fullV_ok hA) (sparseV_ok hA) (.inr ⟨rfl, by omega⟩)
    · obtain ⟨b, rfl⟩ := Int.eq_ofNat_of_zero_le (show 0 ≤ h by omega)
      obtain ⟨d, rfl⟩ : ∃ d, a = b + d := ⟨a - b, by omega⟩
      have hbd : b + d ≤ 14 := by omega
      have hP0 := Nat.two_pow_pos d
      have hP1 : 2 ^ d ≤ 2 ^ 14 := Nat.pow_le_pow_right (by decide) (by omega)
      have hw := wide_le F (size := size) (by simp [powIn] at hp; exact hp.1.1) (by have := takesV_bounds F (n := c.most) (by have := F.m1; omega) F.m2; simp [powIn] at hp; omega) (k := b + d) (by omega)
      have hsz : size ≤ 65536 := by have := takesV_bounds F (n := c.most) (by have := F.m1; omega) F.m2; simp [powIn] at hp; omega
      have e5 : wrap64 ((2 : Int) ^ d) = ((2 ^ d : Nat) : Int) := by
        rw [show ((2 : Int) ^ d) = ((2 ^ d : Nat) : Int) by rw [Int.natCast_pow]; rfl]
        exact IntWalk.wrap64_in _ (by omega)
      obtain ⟨P, hP⟩ : ∃ P : Int, ((2 ^ d : Nat) : Int) = P := ⟨_, rfl⟩
      have hPb : 1 ≤ P ∧ P ≤ 16384 := by omega
      obtain ⟨u1, u2, u3, u4⟩ := div_bounds (n := n + P - 1) (P := P) (by omega) hPb.1
      obtain ⟨v1, v2, v3, v4⟩ := div_bounds (n := n) (P := P) n0 hPb.1
      have q1 : IntKind.i64.wrap ((n + P - 1).tdiv P) = (n + P - 1) / P := by rw [Int.tdiv_eq_ediv_of_nonneg (by omega)]; exact IntWalk.i64_in _ (by omega)
      have q2 : IntKind.i64.wrap (n.tdiv P) = n / P := by rw [Int.tdiv_eq_ediv_of_nonneg n0]; exact IntWalk.i64_in _ (by omega)
      -- whatever the part's answers, they are told
      have hud : (fullV c size (b : Int) ((n + P - 1) / P)).2 = 0 ∧ (fullB c size ((b + d : Nat) : Int) n = true → (fullV c size (b : Int) ((n + P - 1) / P)).1 = true) := by
        have hle : (n + P - 1) / P ≤ c.seg * ((2 ^ b : Nat) : Int) := by
          have h1 : n ≤ c.seg * ((2 ^ b : Nat) : Int) * P := by rw [← hP, Int.mul_assoc, ← Int.natCast_mul, ← Nat.pow_add]; exact n1
          have h2 : (n + P - 1) / P * P < (c.seg * ((2 ^ b : Nat) : Int) + 1) * P := by rw [Int.add_mul]; omega
          have := Int.lt_of_mul_lt_mul_right h2 (by omega)
          omega
        have hA2 := asked_yes (n := (n + P - 1) / P) (k := b) hH (by omega) u3 hle
        rw [fullV_ok hA2]
        refine ⟨rfl, fun hm => ?_⟩
        exact (shares_up (h := b) (d := d) hH (by omega) n0 n1 hm ((n + P - 1) / P) (by rw [hP]; omega) u3).2
      have hdd : (sparseV c size (b : Int) (n / P)).2 = 0 ∧ (sparseB c size ((b + d : Nat) : Int) n = true → (sparseV c size (b : Int) (n / P)).1 = true) := by
        have hle : n / P ≤ c.seg * ((2 ^ b : Nat) : Int) := by
          have h1 : n ≤ c.seg * ((2 ^ b : Nat) : Int) * P := by rw [← hP, Int.mul_assoc, ← Int.natCast_mul, ← Nat.pow_add]; exact n1
          exact Int.le_of_mul_le_mul_right (Int.le_trans v1 h1) (by omega)
        have hA2 := asked_yes (n := n / P) (k := b) hH (by omega) v3 hle
        rw [sparseV_ok hA2]
        refine ⟨rfl, fun hm => ?_⟩
        exact (shares_down (h := b) (d := d) hH (by omega) n1 hm (n / P) v3 (by rw [hP]; exact v2) (by rw [hP]; exact v1)).2
      rw [hP] at e5
      have hc : ((b + d : Nat) : Int) = (b : Int) + d := by omega
      rw [hc] at *
      have hg1 : fullV c size (b : Int) ((n + P - 1) / P) = ((fullV c size (b : Int) ((n + P - 1) / P)).1, 0) := Prod.ext rfl hud.1
      have hg2 : sparseV c size (b : Int) (n / P) = ((sparseV c size (b : Int) (n / P)).1, 0) := Prod.ext rfl hdd.1
      refine shares_late c size n b d W ws w _ _ _ _ _ _ P (fullV_ok hA) (sparseV_ok hA) hbd e5 hPb.1 hPb.2 n0 (by omega) hg1 hg2 q1 q2 ?_ ?_
      · cases hq : fullB c size ((b : Int) + d) n
        · exact .inl rfl
        · exact .inr (hud.2 hq)
      · cases hq : sparseB c size ((b : Int) + d) n
        · exact .inl rfl
        · exact .inr (hdd.2 hq)

end Go.Proofs.Ythgeghdegpgijaa.Conf
