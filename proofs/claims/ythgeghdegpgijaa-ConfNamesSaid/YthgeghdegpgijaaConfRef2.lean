/- Contracts of the document's answer for layer 5, above May. -/
import Derived.Test.YthgeghdegpgijaaConfRef
namespace Go.Proofs.Ythgeghdegpgijaa.Conf
open Go.RowKit Go.Sort Go.Proofs.Ythgeghdegpgijaa Go.Proofs.Ythgeghdegpgijaa.Frac

theorem may_is (c : Cfg) (w : World) (W : c.Wf) (r : Bool) (h : okB c = r) :
    Calls Try.prog 25 #[.agg #[.int .u8 c.tag, .int .i64 c.most, .int .i64 c.seg, .int .i64 c.least, .int .i64 c.den, .int .i64 c.ll, .int .i64 c.rl, .int .i64 c.rh, .int .i64 c.lh]] w fun e w' => e = .returned (.bool r) ∧ Below w.heap.size w w' := by
  subst h; exact may_any c w W

set_option maxHeartbeats 400000 in
theorem refCheck_any (c : Cfg) (w : World) (W : c.Wf) :
    Calls Try.prog 14 #[.agg #[.int .u8 c.tag, .int .i64 c.most, .int .i64 c.seg, .int .i64 c.least, .int .i64 c.den, .int .i64 c.ll, .int .i64 c.rl, .int .i64 c.rh, .int .i64 c.lh]] w fun e w' => e = .returned (.int .i64 (checkV c)) ∧ Below w.heap.size w w' := by
  cases ho : okB c
  · have HV := Lib.hid (checkV_no ho)
    have HM := Lib.hid (fun w => may_is c w W _ ho)
    clear ho W
    go_enter Try.func14, Try.ntmps14
    go_wp2_with fail
    refine (HM.out _).mono ?_
    rintro e w' ⟨rfl, hb⟩
    go_wp2
    go_ret
    exact ⟨ret_int HV.out.symm, box_below (box_first hb)⟩
  · have HV := Lib.hid (checkV_yes ho)
    have HM := Lib.hid (fun w => may_is c w W _ ho)
    clear ho W
    go_enter Try.func14, Try.ntmps14
    go_wp2_with fail
    refine (HM.out _).mono ?_
    rintro e w' ⟨rfl, hb⟩
    go_wp2
    go_ret
    exact ⟨ret_int HV.out.symm, box_below (box_first hb)⟩

set_option maxHeartbeats 1000000 in
theorem refCap_any (c : Cfg) (n : Int) (w : World) (W : c.Wf) :
    Calls Try.prog 10 #[.agg #[.int .u8 c.tag, .int .i64 c.most, .int .i64 c.seg, .int .i64 c.least, .int .i64 c.den, .int .i64 c.ll, .int .i64 c.rl, .int .i64 c.rh, .int .i64 c.lh], .int .i64 n] w fun e w' => e = .returned (.tuple #[.int .i64 (capV c n).1, .int .i64 (capV c n).2]) ∧ Below w.heap.size w w' := by
  cases hok : okB c
  · have HV := Lib.hid (show capV c n = (0, 50) by unfold capV; rw [hok]; rfl)
    have HC := Lib.hid (fun w => may_is c w W _ hok)
    clear hok W
    go_enter Try.func10, Try.ntmps10
    go_wp2_with fail
    refine (HC.out _).mono ?_
    rintro e w' ⟨rfl, hb⟩
    go_wp2
    go_ret2
    exact ⟨ret_pair HV.out, box_below (box_first hb)⟩
  · have HC := Lib.hid (fun w => may_is c w W _ hok)
    have HF := Lib.hid (okB_fine hok)
    have hV : capV c n = (if n < 0 then (0, 2) else if c.most < n then (0, 4) else (takesV c n, 0)) := by unfold capV; rw [if_pos hok]
    have m2 := HF.out.m2
    by_cases h1 : n < 0
    · have HV := Lib.hid (hV.trans (if_pos h1))
      clear hok W hV m2
      go_enter Try.func10, Try.ntmps10
      go_wp2_with fail
      refine (HC.out _).mono ?_
      rintro e w' ⟨rfl, hb⟩
      go_wp2
      go_ret2
      exact ⟨ret_pair HV.out, box_below (box_first hb)⟩
    · rw [if_neg h1] at hV
      by_cases h2 : c.most < n
      · have HV := Lib.hid (hV.trans (if_pos h2))
        clear hok W hV m2
        go_enter Try.func10, Try.ntmps10
        go_wp2_with fail
        refine (HC.out _).mono ?_
        rintro e w' ⟨rfl, hb⟩
        replace hb := box_first hb
        obtain ⟨k0, k1, k2, k3, k4, k5, k6, k7, k8⟩ := cells9 hb
        go_wp2
        go_ret2
        exact ⟨ret_pair HV.out, box_below hb⟩
      · have HV := Lib.hid (hV.trans (if_neg h2))
        have HT := Lib.hid (fun w => refTakes_any c n w HF.out (by omega) (by omega))
        clear hok W hV
        go_enter Try.func10, Try.ntmps10
        go_wp2_with fail
        refine (HC.out _).mono ?_
        rintro e w' ⟨rfl, hb⟩
        replace hb := box_first hb
        obtain ⟨k0, k1, k2, k3, k4, k5, k6, k7, k8⟩ := cells9 hb
        go_wp2_with fail
        refine (HT.out _).mono ?_
        rintro e w2 ⟨rfl, hb2⟩
        replace hb := bstep1 hb hb2 (by simp)
        go_wp2
        go_ret2
        exact ⟨ret_pair HV.out, box_below hb⟩

set_option maxRecDepth 100000 in
set_option maxHeartbeats 1000000 in
theorem refIs_any (c : Cfg) (size : Int) (w : World) (F : c.Fine) (ws : (Lit.int .i64 size).wf = true) (p : Bool) (hp : powIn size c.least (takesV c c.most) = p) :
    Calls Try.prog 29 #[.agg #[.int .u8 c.tag, .int .i64 c.most, .int .i64 c.seg, .int .i64 c.least, .int .i64 c.den, .int .i64 c.ll, .int .i64 c.rl, .int .i64 c.rh, .int .i64 c.lh], .int .i64 size] w fun e w' => e = .returned (.bool p) ∧ Below w.heap.size w w' := by
  have HT := Lib.hid (fun w => refTakes_any c c.most w F (by have := F.m1; omega) F.m2)
  have HP := Lib.hid (fun w => refPower_in size c.least (takesV c c.most) w ws p hp)
  clear hp F ws
  go_enter Try.func29, Try.ntmps29
  go_wp2_with fail
  refine region_qb (w.alloc (.cells #[.int .u8 c.tag, .int .i64 c.most, .int .i64 c.seg, .int .i64 c.least, .int .i64 c.den, .int .i64 c.ll, .int .i64 c.rl, .int .i64 c.rh, .int .i64 c.lh] 23)) (w.heap.size + 1) (Below.refl _ _) mixed (by kernel_rfl) fun w5 hB => ?_
  obtain ⟨c0, c1, c2, c3, c4, c5, c6, c7, c8⟩ := cells9 hB
  have k0 := cell_regrown c0; have k1 := cell_regrown c1; have k2 := cell_regrown c2; have k3 := cell_regrown c3; have k4 := cell_regrown c4; have k5 := cell_regrown c5; have k6 := cell_regrown c6; have k7 := cell_regrown c7; have k8 := cell_regrown c8
  clear c0 c1 c2 c3 c4 c5 c6 c7 c8
  repeat (quiet_step (first | exact Calls.regrown_of (HT.out _) | exact Calls.regrown_of ((HP.out _).mono fun _ _ h => ⟨h.1, h.2 ▸ Below.refl _ _⟩)))
  refine wpQuiet_nil ?_
  intro _ hw'
  obtain ⟨⟨dq, osq⟩, hw''⟩ := hw'
  subst hw''
  replace hB := hB.trans ((below_regrown w5 dq osq).mono (by have := hB.size; simp at this; omega))
  clear k0 k1 k2 k3 k4 k5 k6 k7 k8
  go_wp2
  go_ret
  exact ⟨rfl, box_below hB⟩

set_option maxRecDepth 100000 in
set_option maxHeartbeats 2000000 in
theorem refHigh_any (c : Cfg) (size : Int) (w : World) (W : c.Wf) (ws : (Lit.int .i64 size).wf = true) :
    Calls Try.prog 12 #[.agg #[.int .u8 c.tag, .int .i64 c.most, .int .i64 c.seg, .int .i64 c.least, .int .i64 c.den, .int .i64 c.ll, .int .i64 c.rl, .int .i64 c.rh, .int .i64 c.lh], .int .i64 size] w fun e w' => e = .returned (.tuple #[.int .i64 (highV c size).1, .int .i64 (highV c size).2]) ∧ Below w.heap.size w w' := by
  cases hok : okB c
  · have HV := Lib.hid (show highV c size = (0, 50) by unfold highV; rw [hok]; rfl)
    have HC := Lib.hid (fun w => may_is c w W _ hok)
    clear hok W
    go_enter Try.func12, Try.ntmps12
    go_wp2_with fail
    refine (HC.out _).mono ?_
    rintro e w' ⟨rfl, hb⟩
    go_wp2
    go_ret2
    exact ⟨ret_pair HV.out, box_below (box_first hb)⟩
  · have HC := Lib.hid (fun w => may_is c w W _ hok)
    have F := okB_fine hok
    have hV : highV c size = (if powIn size c.least (takesV c c.most) = true then (heightV c size, 0) else (0, 2)) := by unfold highV; rw [if_pos hok]
    obtain ⟨p, hp⟩ : ∃ p, powIn size c.least (takesV c c.most) = p := ⟨_, rfl⟩
    have HI := Lib.hid (fun w => refIs_any c size w F ws p hp)
    have HH := Lib.hid (show p = true → ∀ w, Calls Try.prog 30 #[.agg #[.int .u8 c.tag, .int .i64 c.most, .int .i64 c.seg, .int .i64 c.least, .int .i64 c.den, .int .i64 c.ll, .int .i64 c.rl, .int .i64 c.rh, .int .i64 c.lh], .int .i64 size] w fun e w' => e = .returned (.int .i64 (heightV c size)) ∧ Below w.heap.size w w' by
      intro hp1 w
      rw [hp1] at hp
      have : c.least ≤ size := by simp [powIn] at hp; exact hp.1.1
      exact refHeight_any c size w (by have := F.s1; omega) (by have := F.l1; have := F.s1; omega) (bd64 ws).2)
    rw [hp] at hV
    have HV := Lib.hid hV
    clear hok W hV hp ws F
    cases p
    · go_enter Try.func12, Try.ntmps12
      go_wp2_with fail
      refine (HC.out _).mono ?_
      rintro e w' ⟨rfl, hb⟩
      replace hb := box_first hb
      obtain ⟨k0, k1, k2, k3, k4, k5, k6, k7, k8⟩ := cells9 hb
      go_wp2_with fail
      refine (HI.out _).mono ?_
      rintro e w2 ⟨rfl, hb2⟩
      replace hb := bstep1 hb hb2 (by simp)
      go_wp2
      go_ret2
      exact ⟨ret_pair HV.out, box_below hb⟩
    · have HH2 := Lib.hid (HH.out rfl)
      clear HH
      go_enter Try.func12, Try.ntmps12
      go_wp2_with fail
      refine (HC.out _).mono ?_
      rintro e w' ⟨rfl, hb⟩
      replace hb := box_first hb
      obtain ⟨k0, k1, k2, k3, k4, k5, k6, k7, k8⟩ := cells9 hb
      go_wp2_with fail
      refine (HI.out _).mono ?_
      rintro e w2 ⟨rfl, hb2⟩
      replace hb := bstep1 hb hb2 (by simp)
      clear k0 k1 k2 k3 k4 k5 k6 k7 k8
      obtain ⟨k0, k1, k2, k3, k4, k5, k6, k7, k8⟩ := cells9 hb
      go_wp2_with fail
      refine (HH2.out _).mono ?_
      rintro e w3 ⟨rfl, hb3⟩
      replace hb := bstep1 hb hb3 (by simp)
      go_wp2
      go_ret2
      exact ⟨ret_pair HV.out, box_below hb⟩

set_option maxRecDepth 100000 in
set_option maxHeartbeats 1000000 in
theorem refWide_any (c : Cfg) (k : Nat) (w : World) (hk : k < 63) (hw : 1 ≤ c.seg * ((2 ^ k : Nat) : Int) ∧ c.seg * ((2 ^ k : Nat) : Int) ≤ 65536) :
    Calls Try.prog 43 #[.agg #[.int .u8 c.tag, .int .i64 c.most, .int .i64 c.seg, .int .i64 c.least, .int .i64 c.den, .int .i64 c.ll, .int .i64 c.rl, .int .i64 c.rh, .int .i64 c.lh], .int .i64 k] w fun e w' => e = .returned (.int .i64 (c.seg * ((2 ^ k : Nat) : Int))) ∧ Below w.heap.size w w' := by
  have HP := Lib.hid (fun w => Frac.refPow_any k w hk)
  have HE := Lib.hid (show IntKind.i64.wrap (c.seg * ((2 ^ k : Nat) : Int)) = c.seg * ((2 ^ k : Nat) : Int) from IntWalk.i64_in _ (by omega))
  clear hw
  go_enter Try.func43, Try.ntmps43
  go_wp2_with fail
  refine region_qb (w.alloc (.cells #[.int .u8 c.tag, .int .i64 c.most, .int .i64 c.seg, .int .i64 c.least, .int .i64 c.den, .int .i64 c.ll, .int .i64 c.rl, .int .i64 c.rh, .int .i64 c.lh] 23)) (w.heap.size + 1) (Below.refl _ _) mixed (by kernel_rfl) fun w5 hB => ?_
  obtain ⟨c0, c1, c2, c3, c4, c5, c6, c7, c8⟩ := cells9 hB
  have k0 := cell_regrown c0; have k1 := cell_regrown c1; have k2 := cell_regrown c2; have k3 := cell_regrown c3; have k4 := cell_regrown c4; have k5 := cell_regrown c5; have k6 := cell_regrown c6; have k7 := cell_regrown c7; have k8 := cell_regrown c8
  clear c0 c1 c2 c3 c4 c5 c6 c7 c8
  repeat (quiet_step (exact Calls.regrown_of ((HP.out _).mono fun _ _ h => ⟨h.1, h.2 ▸ Below.refl _ _⟩)))
  refine wpQuiet_nil ?_
  intro _ hw'
  obtain ⟨⟨dq, osq⟩, hw''⟩ := hw'
  subst hw''
  replace hB := hB.trans ((below_regrown w5 dq osq).mono (by have := hB.size; simp at this; omega))
  clear k0 k1 k2 k3 k4 k5 k6 k7 k8
  go_wp2
  go_ret
  exact ⟨ret_int (by first | exact HE.out | (rw [← HE.out, Int.natCast_pow]; rfl)), box_below hB⟩

end Go.Proofs.Ythgeghdegpgijaa.Conf
