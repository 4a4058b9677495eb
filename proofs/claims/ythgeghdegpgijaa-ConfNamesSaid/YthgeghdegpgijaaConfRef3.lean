/- Contracts of the document's answer for layer 5: windows. -/
import Derived.Test.YthgeghdegpgijaaConfRef2
namespace Go.Proofs.Ythgeghdegpgijaa.Conf
open Go.RowKit Go.Sort Go.Proofs.Ythgeghdegpgijaa Go.Proofs.Ythgeghdegpgijaa.Frac

/-- What is known of a window that may be asked for. -/
structure Win (c : Cfg) (size H n : Int) (k : Nat) : Prop where
  F : c.Fine
  hH : H = heightV c size
  h0 : 0 ≤ H
  h1 : H ≤ 14
  s0 : c.least ≤ size
  s1 : size ≤ 65536
  k1 : (k : Int) ≤ H
  n0 : 0 ≤ n
  n1 : n ≤ c.seg * ((2 ^ k : Nat) : Int)
  w0 : 1 ≤ c.seg * ((2 ^ k : Nat) : Int)
  w1 : c.seg * ((2 ^ k : Nat) : Int) ≤ 65536

theorem win_of {c : Cfg} {size H n : Int} {k : Nat} (h : highV c size = (H, 0)) (hk : (k : Int) ≤ H) (n0 : 0 ≤ n) (n1 : n ≤ c.seg * ((2 ^ k : Nat) : Int)) : Win c size H n k := by
  obtain ⟨_, F, f1, f2, _, f3, f4, f5⟩ := high_facts h
  have hwide := wide_le F f1 f2 (k := k) (by omega)
  exact ⟨F, f3, f4, f5, f1, f2, hk, n0, n1, hwide.2, by omega⟩

theorem pow_of_powB {n : Int} (h : powB n = true) : ∃ k : Nat, n = ((2 ^ k : Nat) : Int) := by
  unfold powB at h
  simp only [Bool.and_eq_true, decide_eq_true_eq] at h
  exact ⟨n.toNat.log2, h.2.symm⟩

/-- A capacity above the least has windows of two segments. -/
theorem height_pos {c : Cfg} {size H : Int} (F : c.Fine) (s0 : c.least ≤ size) (_s1 : size ≤ 65536) (hp : powB size = true) (hH : H = heightV c size) (hne : size ≠ c.least) : 0 < H := by
  obtain ⟨a, ha⟩ := pow_of_powB hp
  obtain ⟨b, hb⟩ := pow_of_powB F.l3
  have hlt : b < a := by
    rcases Nat.lt_or_ge b a with h | h
    · exact h
    · exfalso
      have := Nat.pow_le_pow_right (show 0 < 2 by decide) h
      omega
  have h2 : 2 ^ (b + 1) ≤ 2 ^ a := Nat.pow_le_pow_right (by decide) (by omega)
  rw [Nat.pow_succ] at h2
  have l1 := F.l1
  have g1 := F.s1
  have hq : 2 ≤ size / c.seg := by rw [Int.le_ediv_iff_mul_le (by omega)]; omega
  rw [hH]
  unfold heightV
  rw [Frac.log2_step (n := (size / c.seg).toNat) (by omega)]
  omega

/-- The numbers that a window's test reckons with. -/
theorem win_mul {x y a b : Int} (h1 : 0 ≤ x ∧ x ≤ a) (h2 : 0 ≤ y ∧ y ≤ b) : 0 ≤ x * y ∧ x * y ≤ a * b :=
  ⟨Int.mul_nonneg h1.1 h2.1, Int.mul_le_mul h1.2 h2.2 h2.1 (by omega)⟩

set_option maxRecDepth 100000 in
set_option maxHeartbeats 800000 in
theorem refNotMany_any (c : Cfg) (size H n : Int) (k : Nat) (w : World) (K : Win c size H n k) :
    Calls Try.prog 35 #[.agg #[.int .u8 c.tag, .int .i64 c.most, .int .i64 c.seg, .int .i64 c.least, .int .i64 c.den, .int .i64 c.ll, .int .i64 c.rl, .int .i64 c.rh, .int .i64 c.lh], .int .i64 size, .int .i64 k, .int .i64 n] w fun e w' => e = .returned (.bool (fullB c size k n)) ∧ Below w.heap.size w w' := by
  obtain ⟨F, hH, h0, h1, s0, s1, k1, n0, n1, w0, w1⟩ := K
  have b := F.s1
  have HH := Lib.hid (show ∀ w, Calls Try.prog 30 #[.agg #[.int .u8 c.tag, .int .i64 c.most, .int .i64 c.seg, .int .i64 c.least, .int .i64 c.den, .int .i64 c.ll, .int .i64 c.rl, .int .i64 c.rh, .int .i64 c.lh], .int .i64 size] w fun e w' => e = .returned (.int .i64 H) ∧ Below w.heap.size w w' by
    intro w; rw [hH]; exact refHeight_any c size w (by omega) (by have := F.l1; omega) (by omega))
  have HW := Lib.hid (fun w => refWide_any c k w (by omega) ⟨w0, w1⟩)
  have HV : fullB c size k n = decide (n * ofV c H ≤ c.seg * ((2 ^ k : Nat) : Int) * limitV H k c.lh c.rh) := by unfold fullB wide; rw [← hH, Int.toNat_natCast]
  generalize c.seg * ((2 ^ k : Nat) : Int) = wd at *
  obtain ⟨d1, d2⟩ := And.intro F.d1 F.d2
  have r0 : 0 ≤ c.rh ∧ c.rh ≤ 64 := by have := F.p1; have := F.p2; have := F.p3; have := F.p4; have := F.p5; omega
  have r1 : 0 ≤ c.lh ∧ c.lh ≤ 64 := by have := F.p4; have := F.p5; omega
  have m1 := win_mul (x := n) (y := c.den) (a := 65536) (b := 64) ⟨n0, by omega⟩ ⟨by omega, d2⟩
  have m2 := win_mul (x := wd) (y := c.rh) (a := 65536) (b := 64) ⟨by omega, w1⟩ r0
  have m3 := win_mul (x := n) (y := H) (a := 65536) (b := 14) ⟨n0, by omega⟩ ⟨h0, h1⟩
  have m4 := win_mul (x := n * H) (y := c.den) (a := 65536 * 14) (b := 64) m3 ⟨by omega, d2⟩
  have m5 := win_mul (x := c.lh) (y := H - k) (a := 64) (b := 14) r1 ⟨by omega, by omega⟩
  have m6 := win_mul (x := c.rh) (y := (k : Int)) (a := 64) (b := 14) r0 ⟨by omega, by omega⟩
  have m7 := win_mul (x := wd) (y := c.lh * (H - k) + c.rh * k) (a := 65536) (b := 1792) ⟨by omega, w1⟩ ⟨by omega, by omega⟩
  have E := Lib.hid (show IntKind.i64.wrap (n * c.den) = n * c.den ∧ IntKind.i64.wrap (wd * c.rh) = wd * c.rh ∧ IntKind.i64.wrap (n * H) = n * H ∧ IntKind.i64.wrap (n * H * c.den) = n * H * c.den ∧ IntKind.i64.wrap (H - k) = H - k ∧ IntKind.i64.wrap (c.lh * (H - k)) = c.lh * (H - k) ∧ IntKind.i64.wrap (c.rh * k) = c.rh * k ∧ IntKind.i64.wrap (c.lh * (H - k) + c.rh * k) = c.lh * (H - k) + c.rh * k ∧ IntKind.i64.wrap (wd * (c.lh * (H - k) + c.rh * k)) = wd * (c.lh * (H - k) + c.rh * k) by
    refine ⟨?_, ?_, ?_, ?_, ?_, ?_, ?_, ?_, ?_⟩ <;> (refine IntWalk.i64_in _ ?_; omega))
  clear m1 m2 m3 m4 m5 m6 m7 F hH
  by_cases hz : H = 0
  · have hz' : (H == 0) = true := by simp [hz]
    have HV2 := Lib.hid (show fullB c size k n = decide (n * c.den ≤ wd * c.rh) by rw [HV]; unfold ofV limitV; rw [if_neg (by omega), if_neg (by omega)])
    clear hz HV
    go_enter Try.func35, Try.ntmps35
    go_wp2_with fail
    refine (HH.out _).mono ?_
    rintro e w' ⟨rfl, hb⟩
    replace hb := box_first hb
    go_wp2_with fail
    refine region_qb (w.alloc (.cells #[.int .u8 c.tag, .int .i64 c.most, .int .i64 c.seg, .int .i64 c.least, .int .i64 c.den, .int .i64 c.ll, .int .i64 c.rl, .int .i64 c.rh, .int .i64 c.lh] 23)) (w.heap.size + 1) (hb) mixed (by kernel_rfl) fun w5 hB => ?_
    obtain ⟨c0, c1, c2, c3, c4, c5, c6, c7, c8⟩ := cells9 hB
    have k0 := cell_regrown c0; have k1 := cell_regrown c1; have k2 := cell_regrown c2; have k3 := cell_regrown c3; have k4 := cell_regrown c4; have k5 := cell_regrown c5; have k6 := cell_regrown c6; have k7 := cell_regrown c7; have k8 := cell_regrown c8
    clear c0 c1 c2 c3 c4 c5 c6 c7 c8
    repeat (first | go_big_quiet_skip | quiet_step (exact Calls.regrown_of (HW.out _)))
    refine wpQuiet_nil ?_
    intro _ hw'
    obtain ⟨⟨dq, osq⟩, hw''⟩ := hw'
    subst hw''
    replace hB := hB.trans ((below_regrown w5 dq osq).mono (by have := hB.size; simp at this; omega))
    clear k0 k1 k2 k3 k4 k5 k6 k7 k8
    clear hb
    go_wp2
    go_ret
    exact ⟨ret_bool (by rw [HV2.out, E.out.1, E.out.2.1]), box_below hB⟩
  · have hz' : (H == 0) = false := by simp [hz]
    have HV2 := Lib.hid (show fullB c size k n = decide (n * H * c.den ≤ wd * (c.lh * (H - k) + c.rh * k)) by
      rw [HV]; unfold ofV limitV; rw [if_pos (by omega), if_pos (by omega), Int.mul_comm c.den H, Int.mul_assoc])
    clear hz HV
    go_enter Try.func35, Try.ntmps35
    go_wp2_with fail
    refine (HH.out _).mono ?_
    rintro e w' ⟨rfl, hb⟩
    replace hb := box_first hb
    go_wp2_with fail
    refine region_qb (w.alloc (.cells #[.int .u8 c.tag, .int .i64 c.most, .int .i64 c.seg, .int .i64 c.least, .int .i64 c.den, .int .i64 c.ll, .int .i64 c.rl, .int .i64 c.rh, .int .i64 c.lh] 23)) (w.heap.size + 1) (hb) mixed (by kernel_rfl) fun w5 hB => ?_
    obtain ⟨c0, c1, c2, c3, c4, c5, c6, c7, c8⟩ := cells9 hB
    have k0 := cell_regrown c0; have k1 := cell_regrown c1; have k2 := cell_regrown c2; have k3 := cell_regrown c3; have k4 := cell_regrown c4; have k5 := cell_regrown c5; have k6 := cell_regrown c6; have k7 := cell_regrown c7; have k8 := cell_regrown c8
    clear c0 c1 c2 c3 c4 c5 c6 c7 c8
    repeat (first | go_big_quiet_skip | quiet_step (exact Calls.regrown_of (HW.out _)))
    refine wpQuiet_nil ?_
    intro _ hw'
    obtain ⟨⟨dq, osq⟩, hw''⟩ := hw'
    subst hw''
    replace hB := hB.trans ((below_regrown w5 dq osq).mono (by have := hB.size; simp at this; omega))
    clear k0 k1 k2 k3 k4 k5 k6 k7 k8
    clear hb
    go_wp2
    go_ret
    exact ⟨ret_bool (by rw [HV2.out]; obtain ⟨_, _, e3, e4, e5, e6, e7, e8, e9⟩ := E.out; rw [e3, e4, e5, e6, e7, e8, e9]), box_below hB⟩

set_option maxRecDepth 100000 in
set_option maxHeartbeats 800000 in
theorem refNotFew_any (c : Cfg) (size H n : Int) (k : Nat) (w : World) (K : Win c size H n k) (hpow : powB size = true) :
    Calls Try.prog 36 #[.agg #[.int .u8 c.tag, .int .i64 c.most, .int .i64 c.seg, .int .i64 c.least, .int .i64 c.den, .int .i64 c.ll, .int .i64 c.rl, .int .i64 c.rh, .int .i64 c.lh], .int .i64 size, .int .i64 k, .int .i64 n] w fun e w' => e = .returned (.bool (sparseB c size k n)) ∧ Below w.heap.size w w' := by
  obtain ⟨F, hH, h0, h1, s0, s1, k1, n0, n1, w0, w1⟩ := K
  have b := F.s1
  have HH := Lib.hid (show ∀ w, Calls Try.prog 30 #[.agg #[.int .u8 c.tag, .int .i64 c.most, .int .i64 c.seg, .int .i64 c.least, .int .i64 c.den, .int .i64 c.ll, .int .i64 c.rl, .int .i64 c.rh, .int .i64 c.lh], .int .i64 size] w fun e w' => e = .returned (.int .i64 H) ∧ Below w.heap.size w w' by
    intro w; rw [hH]; exact refHeight_any c size w (by omega) (by have := F.l1; omega) (by omega))
  have HW := Lib.hid (fun w => refWide_any c k w (by omega) ⟨w0, w1⟩)
  have HV : sparseB c size k n = (decide (size = c.least) || decide (c.seg * ((2 ^ k : Nat) : Int) * limitV H k c.ll c.rl ≤ (n + 1) * ofV c H)) := by unfold sparseB wide; rw [← hH, Int.toNat_natCast]
  have hpos : size ≠ c.least → 0 < H := height_pos F s0 s1 hpow hH
  generalize c.seg * ((2 ^ k : Nat) : Int) = wd at *
  obtain ⟨d1, d2⟩ := And.intro F.d1 F.d2
  have r0 : 0 ≤ c.rl ∧ c.rl ≤ 64 := by have := F.p1; have := F.p2; have := F.p3; have := F.p4; have := F.p5; omega
  have r1 : 0 ≤ c.ll ∧ c.ll ≤ 64 := by have := F.p1; have := F.p2; omega
  have m3 := win_mul (x := n + 1) (y := H) (a := 65537) (b := 14) ⟨by omega, by omega⟩ ⟨h0, h1⟩
  have m4 := win_mul (x := (n + 1) * H) (y := c.den) (a := 65537 * 14) (b := 64) m3 ⟨by omega, d2⟩
  have m5 := win_mul (x := c.ll) (y := H - k) (a := 64) (b := 14) r1 ⟨by omega, by omega⟩
  have m6 := win_mul (x := c.rl) (y := (k : Int)) (a := 64) (b := 14) r0 ⟨by omega, by omega⟩
  have m7 := win_mul (x := wd) (y := c.ll * (H - k) + c.rl * k) (a := 65536) (b := 1792) ⟨by omega, w1⟩ ⟨by omega, by omega⟩
  have E := Lib.hid (show IntKind.i64.wrap (n + 1) = n + 1 ∧ IntKind.i64.wrap ((n + 1) * H) = (n + 1) * H ∧ IntKind.i64.wrap ((n + 1) * H * c.den) = (n + 1) * H * c.den ∧ IntKind.i64.wrap (H - k) = H - k ∧ IntKind.i64.wrap (c.ll * (H - k)) = c.ll * (H - k) ∧ IntKind.i64.wrap (c.rl * k) = c.rl * k ∧ IntKind.i64.wrap (c.ll * (H - k) + c.rl * k) = c.ll * (H - k) + c.rl * k ∧ IntKind.i64.wrap (wd * (c.ll * (H - k) + c.rl * k)) = wd * (c.ll * (H - k) + c.rl * k) by
    refine ⟨?_, ?_, ?_, ?_, ?_, ?_, ?_, ?_⟩ <;> (refine IntWalk.i64_in _ ?_; omega))
  clear m3 m4 m5 m6 m7 F hH
  by_cases hle : size = c.least
  · have hq : (size == c.least) = true := by simp [hle]
    have HV2 := Lib.hid (show sparseB c size k n = true by rw [HV, decide_eq_true hle]; rfl)
    clear hle HV hpos
    go_enter Try.func36, Try.ntmps36
    go_wp2_with fail
    refine (HH.out _).mono ?_
    rintro e w' ⟨rfl, hb⟩
    replace hb := box_first hb
    go_wp2_with fail
    refine region_qb (w.alloc (.cells #[.int .u8 c.tag, .int .i64 c.most, .int .i64 c.seg, .int .i64 c.least, .int .i64 c.den, .int .i64 c.ll, .int .i64 c.rl, .int .i64 c.rh, .int .i64 c.lh] 23)) (w.heap.size + 1) (hb) mixed (by kernel_rfl) fun w5 hB => ?_
    obtain ⟨c0, c1, c2, c3, c4, c5, c6, c7, c8⟩ := cells9 hB
    have k0 := cell_regrown c0; have k1 := cell_regrown c1; have k2 := cell_regrown c2; have k3 := cell_regrown c3; have k4 := cell_regrown c4; have k5 := cell_regrown c5; have k6 := cell_regrown c6; have k7 := cell_regrown c7; have k8 := cell_regrown c8
    clear c0 c1 c2 c3 c4 c5 c6 c7 c8
    repeat (first | go_big_quiet_skip | quiet_step (exact Calls.regrown_of (HW.out _)))
    refine wpQuiet_nil ?_
    intro _ hw'
    obtain ⟨⟨dq, osq⟩, hw''⟩ := hw'
    subst hw''
    replace hB := hB.trans ((below_regrown w5 dq osq).mono (by have := hB.size; simp at this; omega))
    clear k0 k1 k2 k3 k4 k5 k6 k7 k8
    clear hb
    go_wp2
    go_ret
    exact ⟨ret_bool HV2.out.symm, box_below hB⟩
  · have hq : (size == c.least) = false := by simp [hle]
    have hp := hpos hle
    have HV2 := Lib.hid (show sparseB c size k n = decide (wd * (c.ll * (H - k) + c.rl * k) ≤ (n + 1) * H * c.den) by
      rw [HV, decide_eq_false hle, Bool.false_or]; unfold ofV limitV; rw [if_pos hp, if_pos hp, Int.mul_comm c.den H, Int.mul_assoc])
    clear hle HV hpos
    go_enter Try.func36, Try.ntmps36
    go_wp2_with fail
    refine (HH.out _).mono ?_
    rintro e w' ⟨rfl, hb⟩
    replace hb := box_first hb
    go_wp2_with fail
    refine region_qb (w.alloc (.cells #[.int .u8 c.tag, .int .i64 c.most, .int .i64 c.seg, .int .i64 c.least, .int .i64 c.den, .int .i64 c.ll, .int .i64 c.rl, .int .i64 c.rh, .int .i64 c.lh] 23)) (w.heap.size + 1) (hb) mixed (by kernel_rfl) fun w5 hB => ?_
    obtain ⟨c0, c1, c2, c3, c4, c5, c6, c7, c8⟩ := cells9 hB
    have k0 := cell_regrown c0; have k1 := cell_regrown c1; have k2 := cell_regrown c2; have k3 := cell_regrown c3; have k4 := cell_regrown c4; have k5 := cell_regrown c5; have k6 := cell_regrown c6; have k7 := cell_regrown c7; have k8 := cell_regrown c8
    clear c0 c1 c2 c3 c4 c5 c6 c7 c8
    repeat (first | go_big_quiet_skip | quiet_step (exact Calls.regrown_of (HW.out _)))
    refine wpQuiet_nil ?_
    intro _ hw'
    obtain ⟨⟨dq, osq⟩, hw''⟩ := hw'
    subst hw''
    replace hB := hB.trans ((below_regrown w5 dq osq).mono (by have := hB.size; simp at this; omega))
    clear k0 k1 k2 k3 k4 k5 k6 k7 k8
    clear hb
    go_wp2
    go_ret
    exact ⟨ret_bool (by rw [HV2.out]; obtain ⟨e1, e3, e4, e5, e6, e7, e8, e9⟩ := E.out; rw [e1, e3, e4, e5, e6, e7, e8, e9]), box_below hB⟩

end Go.Proofs.Ythgeghdegpgijaa.Conf
