/- Contracts of the functions of package conf behind Check. -/
import Derived.Test.YthgeghdegpgijaaConf2
namespace Go.Proofs.Ythgeghdegpgijaa.Conf
open Go.RowKit Go.Sort Go.Proofs.Ythgeghdegpgijaa Go.Proofs.Ythgeghdegpgijaa.Frac

theorem bstep1 {n : Nat} {W w1 w2 : World} (h : Below n W w1) (h2 : Below w1.heap.size w1 w2) (hn : n ≤ W.heap.size) : Below n W w2 := h.trans (h2.mono (Nat.le_trans hn h.size))

/-- The fields of a config in its box, behind whatever made memory. -/
theorem cells9 {c : Cfg} {w w1 : World} (hB : Below (w.heap.size + 1) (w.alloc (.cells #[.int .u8 c.tag, .int .i64 c.most, .int .i64 c.seg, .int .i64 c.least, .int .i64 c.den, .int .i64 c.ll, .int .i64 c.rl, .int .i64 c.rh, .int .i64 c.lh] 23)) w1) :
    w1.cell? ⟨w.heap.size, 0, Option.none⟩ = some (.int .u8 c.tag) ∧ w1.cell? ⟨w.heap.size, 1, Option.none⟩ = some (.int .i64 c.most) ∧ w1.cell? ⟨w.heap.size, 2, Option.none⟩ = some (.int .i64 c.seg) ∧ w1.cell? ⟨w.heap.size, 3, Option.none⟩ = some (.int .i64 c.least) ∧ w1.cell? ⟨w.heap.size, 4, Option.none⟩ = some (.int .i64 c.den) ∧ w1.cell? ⟨w.heap.size, 5, Option.none⟩ = some (.int .i64 c.ll) ∧ w1.cell? ⟨w.heap.size, 6, Option.none⟩ = some (.int .i64 c.rl) ∧ w1.cell? ⟨w.heap.size, 7, Option.none⟩ = some (.int .i64 c.rh) ∧ w1.cell? ⟨w.heap.size, 8, Option.none⟩ = some (.int .i64 c.lh) := by
  have cl : ∀ o, w1.cell? ⟨w.heap.size, o, Option.none⟩ = ((w.alloc (.cells #[.int .u8 c.tag, .int .i64 c.most, .int .i64 c.seg, .int .i64 c.least, .int .i64 c.den, .int .i64 c.ll, .int .i64 c.rl, .int .i64 c.rh, .int .i64 c.lh] 23))).cell? ⟨w.heap.size, o, Option.none⟩ := fun o => hB.cell (p := ⟨w.heap.size, o, Option.none⟩) (by simp)
  simp only [cl]
  refine ⟨?_, ?_, ?_, ?_, ?_, ?_, ?_, ?_, ?_⟩ <;> go_simp

/-- The world behind a box. -/
theorem box_below {c : Cfg} {w w1 : World} (hB : Below (w.heap.size + 1) (w.alloc (.cells #[.int .u8 c.tag, .int .i64 c.most, .int .i64 c.seg, .int .i64 c.least, .int .i64 c.den, .int .i64 c.ll, .int .i64 c.rl, .int .i64 c.rh, .int .i64 c.lh] 23)) w1) : Below w.heap.size w w1 := ((Below.refl _ w).alloc (Nat.le_refl _) _).trans (hB.mono (by omega))
theorem box_first {c : Cfg} {w w1 : World} (hb : Below ((w.alloc (.cells #[.int .u8 c.tag, .int .i64 c.most, .int .i64 c.seg, .int .i64 c.least, .int .i64 c.den, .int .i64 c.ll, .int .i64 c.rl, .int .i64 c.rh, .int .i64 c.lh] 23))).heap.size (w.alloc (.cells #[.int .u8 c.tag, .int .i64 c.most, .int .i64 c.seg, .int .i64 c.least, .int .i64 c.den, .int .i64 c.ll, .int .i64 c.rl, .int .i64 c.rh, .int .i64 c.lh] 23)) w1) : Below (w.heap.size + 1) (w.alloc (.cells #[.int .u8 c.tag, .int .i64 c.most, .int .i64 c.seg, .int .i64 c.least, .int .i64 c.den, .int .i64 c.ll, .int .i64 c.rl, .int .i64 c.rh, .int .i64 c.lh] 23)) w1 := hb.mono (by simp)

theorem check_is (c : Cfg) (w : World) (W : c.Wf) (r : Int) (h : checkV c = r) :
    Calls Try.prog 13 #[.agg #[.int .u8 c.tag, .int .i64 c.most, .int .i64 c.seg, .int .i64 c.least, .int .i64 c.den, .int .i64 c.ll, .int .i64 c.rl, .int .i64 c.rh, .int .i64 c.lh]] w fun e w' => e = .returned (.int .i64 r) ∧ Below w.heap.size w w' := by
  subst h; exact check_any c w W

set_option maxHeartbeats 1000000 in
theorem cap_any (c : Cfg) (n : Int) (w : World) (W : c.Wf) :
    Calls Try.prog 9 #[.agg #[.int .u8 c.tag, .int .i64 c.most, .int .i64 c.seg, .int .i64 c.least, .int .i64 c.den, .int .i64 c.ll, .int .i64 c.rl, .int .i64 c.rh, .int .i64 c.lh], .int .i64 n] w fun e w' => e = .returned (.tuple #[.int .i64 (capV c n).1, .int .i64 (capV c n).2]) ∧ Below w.heap.size w w' := by
  have HW := Lib.hid W
  cases hok : okB c
  · have HV := Lib.hid (show capV c n = (0, 50) by unfold capV; rw [hok]; rfl)
    have HC := Lib.hid (fun w => check_is c w HW.out 50 (checkV_no hok))
    clear hok W
    go_enter Try.func9, Try.ntmps9
    go_wp2_with fail
    refine (HC.out _).mono ?_
    rintro e w' ⟨rfl, hb⟩
    go_wp2
    go_ret2
    exact ⟨ret_pair HV.out, box_below (box_first hb)⟩
  · have HC := Lib.hid (fun w => check_is c w HW.out 0 (checkV_yes hok))
    have HF := Lib.hid (okB_fine hok)
    have hV : capV c n = (if n < 0 then (0, 2) else if c.most < n then (0, 4) else (takesV c n, 0)) := by unfold capV; rw [if_pos hok]
    have m2 := HF.out.m2
    by_cases h1 : n < 0
    · have HV := Lib.hid (hV.trans (if_pos h1))
      clear hok W hV m2
      go_enter Try.func9, Try.ntmps9
      go_wp2_with fail
      refine (HC.out _).mono ?_
      rintro e w' ⟨rfl, hb⟩
      go_wp2
      go_ret2
      exact ⟨ret_pair HV.out, box_below (box_first hb)⟩
    · rw [if_neg h1] at hV
      by_cases h2 : c.most < n
      · have HV := Lib.hid (hV.trans (if_pos h2))
        clear hok W hV m2
        go_enter Try.func9, Try.ntmps9
        go_wp2_with fail
        refine (HC.out _).mono ?_
        rintro e w' ⟨rfl, hb⟩
        replace hb := box_first hb
        obtain ⟨k0, k1, k2, k3, k4, k5, k6, k7, k8⟩ := cells9 hb
        go_wp2
        go_ret2
        exact ⟨ret_pair HV.out, box_below hb⟩
      · have HV := Lib.hid (hV.trans (if_neg h2))
        have HT := Lib.hid (fun w => takes_any c n w HF.out (by omega) (by omega))
        clear hok W hV
        go_enter Try.func9, Try.ntmps9
        go_wp2_with fail
        refine (HC.out _).mono ?_
        rintro e w' ⟨rfl, hb⟩
        replace hb := box_first hb
        obtain ⟨k0, k1, k2, k3, k4, k5, k6, k7, k8⟩ := cells9 hb
        go_wp2_with fail
        refine (HT.out _).mono ?_
        rintro e w2 ⟨rfl, hb2⟩
        replace hb := bstep1 hb hb2 (by simp)
        go_wp2
        go_ret2
        exact ⟨ret_pair HV.out, box_below hb⟩

set_option maxRecDepth 100000 in
set_option maxHeartbeats 2000000 in
theorem high_any (c : Cfg) (size : Int) (w : World) (W : c.Wf) (ws : (Lit.int .i64 size).wf = true) :
    Calls Try.prog 11 #[.agg #[.int .u8 c.tag, .int .i64 c.most, .int .i64 c.seg, .int .i64 c.least, .int .i64 c.den, .int .i64 c.ll, .int .i64 c.rl, .int .i64 c.rh, .int .i64 c.lh], .int .i64 size] w fun e w' => e = .returned (.tuple #[.int .i64 (highV c size).1, .int .i64 (highV c size).2]) ∧ Below w.heap.size w w' := by
  have HW := Lib.hid W
  cases hok : okB c
  · have HV := Lib.hid (show highV c size = (0, 50) by unfold highV; rw [hok]; rfl)
    have HC := Lib.hid (fun w => check_is c w HW.out 50 (checkV_no hok))
    clear hok W
    go_enter Try.func11, Try.ntmps11
    go_wp2_with fail
    refine (HC.out _).mono ?_
    rintro e w' ⟨rfl, hb⟩
    go_wp2
    go_ret2
    exact ⟨ret_pair HV.out, box_below (box_first hb)⟩
  · have HC := Lib.hid (fun w => check_is c w HW.out 0 (checkV_yes hok))
    have HF := Lib.hid (okB_fine hok)
    have hV : highV c size = (if powIn size c.least (takesV c c.most) = true then (heightV c size, 0) else (0, 2)) := by unfold highV; rw [if_pos hok]
    have HT := Lib.hid (fun w => takes_any c c.most w HF.out (by have := HF.out.m1; omega) HF.out.m2)
    obtain ⟨p, hp⟩ : ∃ p, powIn size c.least (takesV c c.most) = p := ⟨_, rfl⟩
    have HP := Lib.hid (show ∀ w, Calls Try.prog 27 #[.int .i64 size, .int .i64 c.least, .int .i64 (takesV c c.most)] w fun e w' => e = .returned (.bool p) ∧ w = w' by
      intro w; have := power_any size c.least (takesV c c.most) w ws; rw [hp] at this; exact this)
    have HH := Lib.hid (show p = true → ∀ w, Calls Try.prog 28 #[.agg #[.int .u8 c.tag, .int .i64 c.most, .int .i64 c.seg, .int .i64 c.least, .int .i64 c.den, .int .i64 c.ll, .int .i64 c.rl, .int .i64 c.rh, .int .i64 c.lh], .int .i64 size] w fun e w' => e = .returned (.int .i64 (heightV c size)) ∧ Below w.heap.size w w' by
      intro hp1 w
      rw [hp1] at hp
      have : c.least ≤ size := by simp [powIn] at hp; exact hp.1.1
      exact height_any c size w (by have := HF.out.s1; omega) (by have := HF.out.l1; have := HF.out.s1; omega) (bd64 ws).2)
    rw [hp] at hV
    have HV := Lib.hid hV
    clear hok W hV hp ws
    go_enter Try.func11, Try.ntmps11
    go_wp2_with fail
    refine (HC.out _).mono ?_
    rintro e w' ⟨rfl, hb⟩
    replace hb := box_first hb
    go_wp2_with fail
    refine region_qb (w.alloc (.cells #[.int .u8 c.tag, .int .i64 c.most, .int .i64 c.seg, .int .i64 c.least, .int .i64 c.den, .int .i64 c.ll, .int .i64 c.rl, .int .i64 c.rh, .int .i64 c.lh] 23)) (w.heap.size + 1) hb mixed (by kernel_rfl) fun w5 hB => ?_
    clear hb
    obtain ⟨c0, c1, c2, c3, c4, c5, c6, c7, c8⟩ := cells9 hB
    have k0 := cell_regrown c0; have k1 := cell_regrown c1; have k2 := cell_regrown c2; have k3 := cell_regrown c3; have k4 := cell_regrown c4; have k5 := cell_regrown c5; have k6 := cell_regrown c6; have k7 := cell_regrown c7; have k8 := cell_regrown c8
    clear c0 c1 c2 c3 c4 c5 c6 c7 c8
    repeat (quiet_step (first | exact Calls.regrown_of (HT.out _) | exact Calls.regrown_of ((HP.out _).mono fun _ _ h => ⟨h.1, h.2 ▸ Below.refl _ _⟩)))
    refine wpQuiet_nil ?_
    intro _ hw'
    obtain ⟨⟨dq, osq⟩, hw''⟩ := hw'
    subst hw''
    replace hB := hB.trans ((below_regrown w5 dq osq).mono (by have := hB.size; simp at this; omega))
    clear k0 k1 k2 k3 k4 k5 k6 k7 k8
    obtain ⟨k0, k1, k2, k3, k4, k5, k6, k7, k8⟩ := cells9 hB
    cases p
    · go_wp2
      go_ret2
      exact ⟨ret_pair HV.out, box_below hB⟩
    · have HH2 := Lib.hid (HH.out rfl)
      clear HH
      go_wp2_with fail
      refine (HH2.out _).mono ?_
      rintro e w2 ⟨rfl, hb2⟩
      replace hB := bstep1 hB hb2 (by simp)
      go_wp2
      go_ret2
      exact ⟨ret_pair HV.out, box_below hB⟩

end Go.Proofs.Ythgeghdegpgijaa.Conf
