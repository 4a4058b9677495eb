/- Contracts of the document's answer for layer 5. -/
import Derived.Test.YthgeghdegpgijaaConf4
namespace Go.Proofs.Ythgeghdegpgijaa.Conf
open Go.RowKit Go.Sort Go.Proofs.Ythgeghdegpgijaa Go.Proofs.Ythgeghdegpgijaa.Frac

set_option maxHeartbeats 400000 in
theorem refPower_in (n from_ to_ : Int) (w : World) (wn : (Lit.int .i64 n).wf = true) (r : Bool) (hr : powIn n from_ to_ = r) :
    Calls Try.prog 38 #[.int .i64 n, .int .i64 from_, .int .i64 to_] w fun e w' => e = .returned (.bool r) ∧ w = w' := by
  subst hr
  obtain ⟨r, hr⟩ : ∃ r, powB n = r := ⟨_, rfl⟩
  have HP := fun w => Lib.hid (show Calls Try.prog 45 #[.int .i64 n] w fun e w' => e = .returned (.bool r) ∧ w = w' by rw [← hr]; exact Frac.refPower_any n w wn)
  have Hr := Lib.hid hr
  clear hr
  by_cases h1 : from_ ≤ n <;> by_cases h2 : n ≤ to_
  all_goals
    have HV := Lib.hid (show powIn n from_ to_ = (decide (from_ ≤ n) && decide (n ≤ to_) && r) by unfold powIn; rw [Hr.out])
    go_enter Try.func38, Try.ntmps38
    go_wp2_with (go_at_call 45; refine ((HP _).out).mono ?_; rintro e w' ⟨rfl, rfl⟩)
    go_ret
    exact ⟨ret_bool (by rw [HV.out]; simp; omega), rfl⟩

set_option maxHeartbeats 400000 in
theorem refHeight_any (c : Cfg) (size : Int) (w : World) (hs : 1 ≤ c.seg) (h0 : 0 ≤ size) (h1 : size ≤ 9223372036854775807) :
    Calls Try.prog 30 #[.agg #[.int .u8 c.tag, .int .i64 c.most, .int .i64 c.seg, .int .i64 c.least, .int .i64 c.den, .int .i64 c.ll, .int .i64 c.rl, .int .i64 c.rh, .int .i64 c.lh], .int .i64 size] w fun e w' => e = .returned (.int .i64 (heightV c size)) ∧ Below w.heap.size w w' := by
  have hq : size / c.seg ≤ 9223372036854775807 := by have := Int.ediv_le_self c.seg h0; omega
  have HL := Lib.hid (fun w => Frac.refLog_any (size / c.seg) w hq)
  go_enter Try.func30, Try.ntmps30
  go_wp2_with (go_at_call 41; refine (HL.out _).mono ?_; rintro e w' ⟨rfl, rfl⟩)
  go_ret
  exact ⟨rfl, (Below.refl _ _).alloc (Nat.le_refl _) _⟩

set_option maxHeartbeats 400000 in
theorem refTakes_any (c : Cfg) (n : Int) (w : World) (F : c.Fine) (hn : 0 ≤ n) (hm : n ≤ 16384) :
    Calls Try.prog 26 #[.agg #[.int .u8 c.tag, .int .i64 c.most, .int .i64 c.seg, .int .i64 c.least, .int .i64 c.den, .int .i64 c.ll, .int .i64 c.rl, .int .i64 c.rh, .int .i64 c.lh], .int .i64 n] w fun e w' => e = .returned (.int .i64 (takesV c n)) ∧ Below w.heap.size w w' := by
  have HF := Lib.hid F
  obtain ⟨d1, d2⟩ := And.intro F.d1 F.d2
  have r1 : 1 ≤ c.rh ∧ c.rh ≤ 64 := by have := F.r1; have := F.d1; have := F.p4; have := F.p5; have := F.d2; omega
  have j1 : 0 ≤ n * c.den := Int.mul_nonneg hn (by omega)
  have j2 : n * c.den ≤ 16384 * 64 := Int.mul_le_mul hm d2 (by omega) (by decide)
  have HU0 := Lib.hid (takesUnder_start F hm)
  clear F
  go_enter Try.func26, Try.ntmps26
  go_wp2
  go_loop [5] (fun x => ∃ size : Int, x = .int .i64 size ∧ TakesUnder c n size) (fun x => (65537 - intOf x).toNat)
  case atStart => exact ⟨c.least, rfl, HU0.out⟩
  case round =>
    obtain ⟨size, rfl, hU⟩ := hrel
    have b1 : 4 ≤ size := by obtain ⟨f, _, _, h3, h4⟩ := hU; exact h3
    have b2 : size ≤ 65536 := by obtain ⟨f, _, _, h3, h4⟩ := hU; exact h4
    have j3 : 0 ≤ c.rh * size := Int.mul_nonneg (by omega) (by omega)
    have j4 : c.rh * size ≤ 64 * 65536 := Int.mul_le_mul r1.2 b2 (by omega) (by decide)
    have HU := Lib.hid hU
    clear hU
    by_cases ho : c.rh * size < n * c.den
    · have hgo := takesUnder_go HF.out hn hm HU.out ho
      have hlt := hgo.2
      have HG := Lib.hid hgo.1
      clear hgo
      go_wp2
      go_round
      case rel => exact ⟨2 * size, rfl, HG.out⟩
      case measure => simp [intOf]; omega
    · have hstop := Lib.hid (takesUnder_stop HU.out ho)
      go_wp2
      go_ret
      exact ⟨ret_int hstop.out, (Below.refl _ _).alloc (Nat.le_refl _) _⟩

theorem okB_no1 {c : Cfg} (h : c.tag < 1 ∨ 3 < c.tag ∨ c.most < 1 ∨ 16384 < c.most ∨ c.den < 1 ∨ 64 < c.den ∨ c.ll < 0 ∨ c.rl ≤ c.ll ∨ c.lh ≤ c.rh ∨ c.den < c.lh ∨ (c.den < c.rl ∧ 0 ≤ c.den) ∨ (c.rh < 0 ∧ 0 ≤ c.den) ∨ 2 * c.rh < c.den ∨ c.den < 8 * c.rl ∨ c.rl * c.least < 2 * c.den) : okB c = false := by
  cases ho : okB c
  · rfl
  · have F := okB_fine ho
    obtain ⟨t1, t2, m1, m2, s1, s2, s3, l1, l2, l3, d1, d2, p1, p2, p3, p4, p5, r1, r2, r3⟩ := F
    omega
theorem okB_no2 {c : Cfg} (h : powIn c.seg 4 64 = false) : okB c = false := by unfold okB sizesB; rw [h]; simp
theorem okB_no3 {c : Cfg} (h : powIn c.least c.seg 256 = false) : okB c = false := by unfold okB sizesB; rw [h]; simp
theorem fine_of' {c : Cfg} (t1 : 1 ≤ c.tag) (t2 : c.tag ≤ 3) (m1 : 1 ≤ c.most) (m2 : c.most ≤ 16384) (s : powIn c.seg 4 64 = true) (l : powIn c.least c.seg 256 = true) (d1 : 1 ≤ c.den) (d2 : c.den ≤ 64) (p1 : 0 ≤ c.ll) (p2 : c.ll < c.rl) (p4 : c.rh < c.lh) (p5 : c.lh ≤ c.den) (r1 : c.den ≤ 2 * c.rh) (r2 : 8 * c.rl ≤ c.den) (r3 : 2 * c.den ≤ c.rl * c.least) : c.Fine := by
  simp [powIn] at s l
  exact ⟨t1, t2, m1, m2, s.1.1, s.1.2, s.2, l.1.1, l.1.2, l.2, d1, d2, p1, p2, by omega, p4, p5, r1, r2, r3⟩
theorem okB_last {c : Cfg} (F : c.Fine) : okB c = decide (c.den * heightV c (takesV c c.most) ≤ (c.lh - c.rh) * c.seg) := by
  unfold okB
  obtain ⟨h1, h2, h3⟩ := F.bools
  rw [h1, h2, h3]; rfl

/-- All that May asks ahead of its last test. -/
def May1 (c : Cfg) : Prop := 1 ≤ c.tag ∧ c.tag ≤ 3 ∧ 1 ≤ c.most ∧ c.most ≤ 16384 ∧ powIn c.seg 4 64 = true ∧ powIn c.least c.seg 256 = true ∧ 1 ≤ c.den ∧ c.den ≤ 64 ∧ 0 ≤ c.ll ∧ c.ll < c.rl ∧ c.rh < c.lh ∧ c.lh ≤ c.den ∧ c.den ≤ 2 * c.rh ∧ 8 * c.rl ≤ c.den ∧ 2 * c.den ≤ c.rl * c.least
theorem may1_fine {c : Cfg} (h : May1 c) : c.Fine := by
  obtain ⟨a1, a2, a3, a4, a5, a6, a7, a8, a9, a10, a11, a12, a13, a14, a15⟩ := h
  exact fine_of' a1 a2 a3 a4 a5 a6 a7 a8 a9 a10 a11 a12 a13 a14 a15

theorem rl_least {c : Cfg} (hl : powIn c.least c.seg 256 = true) (hs : powIn c.seg 4 64 = true) (h1 : 0 ≤ c.rl) (h2 : c.rl ≤ 64) : 0 ≤ c.rl * c.least ∧ c.rl * c.least ≤ 16384 := by
  simp [powIn] at hl hs
  have g1 : 0 ≤ c.rl * c.least := Int.mul_nonneg h1 (by omega)
  have g2 : c.rl * c.least ≤ 64 * 256 := Int.mul_le_mul h2 (by omega) (by omega) (by omega)
  omega

set_option maxRecDepth 100000 in
set_option maxHeartbeats 8000000 in
theorem may_bad (c : Cfg) (w : World) (W : c.Wf) (h : ¬ May1 c) :
    Calls Try.prog 25 #[.agg #[.int .u8 c.tag, .int .i64 c.most, .int .i64 c.seg, .int .i64 c.least, .int .i64 c.den, .int .i64 c.ll, .int .i64 c.rl, .int .i64 c.rh, .int .i64 c.lh]] w fun e w' => e = .returned (.bool false) ∧ Below w.heap.size w w' := by
  obtain ⟨p1, hp1⟩ : ∃ p, powIn c.seg 4 64 = p := ⟨_, rfl⟩
  obtain ⟨p2, hp2⟩ : ∃ p, powIn c.least c.seg 256 = p := ⟨_, rfl⟩
  have H1 := Lib.hid (fun w => refPower_in c.seg 4 64 w W.seg p1 hp1)
  have H2 := Lib.hid (fun w => refPower_in c.least c.seg 256 w W.least p2 hp2)
  have hprod : (c.den < 1 ∨ 64 < c.den ∨ c.ll < 0 ∨ c.rl ≤ c.ll ∨ c.den < c.rl) ∨ p1 = false ∨ p2 = false ∨ (0 ≤ c.rl * c.least ∧ c.rl * c.least ≤ 16384) := by
    by_cases hc : c.den < 1 ∨ 64 < c.den ∨ c.ll < 0 ∨ c.rl ≤ c.ll ∨ c.den < c.rl
    · exact .inl hc
    · cases p1
      · exact .inr (.inl rfl)
      · cases p2
        · exact .inr (.inr (.inl rfl))
        · exact .inr (.inr (.inr (rl_least hp2 hp1 (by omega) (by omega))))
  have HM := Lib.hid (show p1 = true → p2 = true → 1 ≤ c.tag → c.tag ≤ 3 → 1 ≤ c.most → c.most ≤ 16384 → 1 ≤ c.den → c.den ≤ 64 → 0 ≤ c.ll → c.ll < c.rl → c.rh < c.lh → c.lh ≤ c.den → c.den ≤ 2 * c.rh → 8 * c.rl ≤ c.den → 2 * c.den ≤ c.rl * c.least → False from
    fun a b c1 c2 c3 c4 c5 c6 c7 c8 c9 c10 c11 c12 c13 => h ⟨c1, c2, c3, c4, by rw [hp1]; exact a, by rw [hp2]; exact b, c5, c6, c7, c8, c9, c10, c11, c12, c13⟩)
  clear hp1 hp2 h W
  cases p1 <;> cases p2
  case true.true =>
    have hprod2 : (c.den < 1 ∨ 64 < c.den ∨ c.ll < 0 ∨ c.rl ≤ c.ll ∨ c.den < c.rl) ∨ (0 ≤ c.rl * c.least ∧ c.rl * c.least ≤ 16384) := by
      rcases hprod with h | h | h | h
      · exact .inl h
      · cases h
      · cases h
      · exact .inr h
    clear hprod
    have HM2 := Lib.hid (HM.out rfl rfl)
    clear HM
    go_enter Try.func25, Try.ntmps25
    go_wp2_with (first | (go_at_call 38; (first | (with_reducible refine (H1.out _).mono ?_) | (with_reducible refine (H2.out _).mono ?_)); rintro e w' ⟨rfl, rfl⟩))
    all_goals
      first
        | (go_ret; exact ⟨rfl, (Below.refl _ _).alloc (Nat.le_refl _) _⟩)
        | (exfalso; exact HM2.out (by omega) (by omega) (by omega) (by omega) (by omega) (by omega) (by omega) (by omega) (by omega) (by omega) (by omega) (by omega) (by omega))
  all_goals
    clear hprod HM
    go_enter Try.func25, Try.ntmps25
    go_wp2_with (first | (go_at_call 38; (first | (with_reducible refine (H1.out _).mono ?_) | (with_reducible refine (H2.out _).mono ?_)); rintro e w' ⟨rfl, rfl⟩))
    all_goals
      go_ret
      exact ⟨rfl, (Below.refl _ _).alloc (Nat.le_refl _) _⟩

set_option maxRecDepth 100000 in
set_option maxHeartbeats 8000000 in
theorem may_good (c : Cfg) (w : World) (W : c.Wf) (h : May1 c) :
    Calls Try.prog 25 #[.agg #[.int .u8 c.tag, .int .i64 c.most, .int .i64 c.seg, .int .i64 c.least, .int .i64 c.den, .int .i64 c.ll, .int .i64 c.rl, .int .i64 c.rh, .int .i64 c.lh]] w fun e w' => e = .returned (.bool (okB c)) ∧ Below w.heap.size w w' := by
  have HF := Lib.hid (may1_fine h)
  obtain ⟨a1, a2, a3, a4, a5, a6, a7, a8, a9, a10, a11, a12, a13, a14, a15⟩ := h
  have H1 := Lib.hid (fun w => refPower_in c.seg 4 64 w W.seg true a5)
  have H2 := Lib.hid (fun w => refPower_in c.least c.seg 256 w W.least true a6)
  obtain ⟨q1, q2⟩ := rl_least a6 a5 (by omega) (by omega)
  obtain ⟨⟨hs, hp⟩, hr⟩ : (sizesB c = true ∧ partsB c = true) ∧ restB c = true := ⟨⟨HF.out.bools.1, HF.out.bools.2.1⟩, HF.out.bools.2.2⟩
  obtain ⟨⟨d1, d2, r1, r2, r3, r4, r5, r6, r7, r8⟩, ⟨g1, g2, g3, g4⟩, _, ⟨q3, q4⟩⟩ := sp_bounds hs hp
  obtain ⟨H, hH, hH0, hH1⟩ : ∃ H, heightV c (takesV c c.most) = H ∧ 0 ≤ H ∧ H ≤ 63 := by
    refine ⟨_, rfl, Int.natCast_nonneg _, ?_⟩
    have := takesV_bounds HF.out (n := c.most) (by have := HF.out.m1; omega) HF.out.m2
    have hb : takesV c c.most / c.seg ≤ 9223372036854775807 := by
      have := Int.ediv_le_self c.seg (show 0 ≤ takesV c c.most by omega); omega
    have := log2_lt63 (takesV c c.most / c.seg) hb
    unfold heightV; omega
  have j1 : 0 ≤ c.den * H := Int.mul_nonneg (by omega) hH0
  have j2 : c.den * H ≤ 64 * 63 := Int.mul_le_mul d2 hH1 hH0 (by omega)
  have HV := Lib.hid (show okB c = decide (c.den * H ≤ (c.lh - c.rh) * c.seg) by rw [okB_last HF.out, hH])
  have HT := Lib.hid (fun w => refTakes_any c c.most w HF.out (by have := HF.out.m1; omega) HF.out.m2)
  have HH := Lib.hid (show ∀ w, Calls Try.prog 30 #[.agg #[.int .u8 c.tag, .int .i64 c.most, .int .i64 c.seg, .int .i64 c.least, .int .i64 c.den, .int .i64 c.ll, .int .i64 c.rl, .int .i64 c.rh, .int .i64 c.lh], .int .i64 (takesV c c.most)] w fun e w' => e = .returned (.int .i64 H) ∧ Below w.heap.size w w' by
    intro w
    have hb := takesV_bounds HF.out (n := c.most) (by have := HF.out.m1; omega) HF.out.m2
    rw [← hH]
    exact refHeight_any c (takesV c c.most) w (by omega) (by omega) (by omega))
  clear hs hp hr hH W a5 a6
  go_enter Try.func25, Try.ntmps25
  go_wp2_with (first | (go_at_call 38; (first | (with_reducible refine (H1.out _).mono ?_) | (with_reducible refine (H2.out _).mono ?_)); rintro e w' ⟨rfl, rfl⟩))
  refine region_qb (w.alloc (.cells #[.int .u8 c.tag, .int .i64 c.most, .int .i64 c.seg, .int .i64 c.least, .int .i64 c.den, .int .i64 c.ll, .int .i64 c.rl, .int .i64 c.rh, .int .i64 c.lh] 23)) (w.heap.size + 1) (Below.refl _ _) mixed (by kernel_rfl) fun w5 hB => ?_
  obtain ⟨c0, c1, c2, c3, c4, c5, c6, c7, c8⟩ := cells9 hB
  have k0 := cell_regrown c0; have k1 := cell_regrown c1; have k2 := cell_regrown c2; have k3 := cell_regrown c3; have k4 := cell_regrown c4; have k5 := cell_regrown c5; have k6 := cell_regrown c6; have k7 := cell_regrown c7; have k8 := cell_regrown c8
  clear c0 c1 c2 c3 c4 c5 c6 c7 c8
  repeat (quiet_step (first | exact Calls.regrown_of (HT.out _) | exact Calls.regrown_of (HH.out _)))
  refine wpQuiet_nil ?_
  intro _ hw'
  obtain ⟨⟨dq, osq⟩, hw''⟩ := hw'
  subst hw''
  replace hB := hB.trans ((below_regrown w5 dq osq).mono (by have := hB.size; simp at this; omega))
  clear k0 k1 k2 k3 k4 k5 k6 k7 k8
  have e1 : IntKind.i64.wrap (c.den * H) = c.den * H := IntWalk.i64_in _ (by omega)
  have e2 : IntKind.i64.wrap (c.lh - c.rh) = c.lh - c.rh := IntWalk.i64_in _ (by omega)
  have e3 : IntKind.i64.wrap ((c.lh - c.rh) * c.seg) = (c.lh - c.rh) * c.seg := IntWalk.i64_in _ (by omega)
  have He := Lib.hid (And.intro e1 (And.intro e2 e3))
  clear e1 e2 e3
  go_wp2
  go_ret
  exact ⟨ret_bool (by rw [HV.out, He.out.2.1, He.out.2.2, He.out.1]), box_below hB⟩

theorem may_any (c : Cfg) (w : World) (W : c.Wf) :
    Calls Try.prog 25 #[.agg #[.int .u8 c.tag, .int .i64 c.most, .int .i64 c.seg, .int .i64 c.least, .int .i64 c.den, .int .i64 c.ll, .int .i64 c.rl, .int .i64 c.rh, .int .i64 c.lh]] w fun e w' => e = .returned (.bool (okB c)) ∧ Below w.heap.size w w' := by
  by_cases h : May1 c
  · exact may_good c w W h
  · rw [show okB c = false by
      cases ho : okB c
      · rfl
      · exfalso
        apply h
        have F := okB_fine ho
        obtain ⟨t1, t2, m1, m2, s1, s2, s3, l1, l2, l3, d1, d2, p1, p2, p3, p4, p5, r1, r2, r3⟩ := F
        exact ⟨t1, t2, m1, m2, by simp [powIn, s1, s2, s3], by simp [powIn, l1, l2, l3], d1, d2, p1, p2, p4, p5, r1, r2, r3⟩]
    exact may_bad c w W h

end Go.Proofs.Ythgeghdegpgijaa.Conf
