/- Contracts of the document's answer for layer 5: Full, Sparse; the laws ConfTells and ConfAsks. -/
import Derived.Test.YthgeghdegpgijaaConfRef3
namespace Go.Proofs.Ythgeghdegpgijaa.Conf
open Go.RowKit Go.Sort Go.Proofs.Ythgeghdegpgijaa Go.Proofs.Ythgeghdegpgijaa.Frac

theorem refHigh_is (c : Cfg) (size : Int) (w : World) (W : c.Wf) (ws : (Lit.int .i64 size).wf = true) (r e : Int) (h : highV c size = (r, e)) :
    Calls Try.prog 12 #[.agg #[.int .u8 c.tag, .int .i64 c.most, .int .i64 c.seg, .int .i64 c.least, .int .i64 c.den, .int .i64 c.ll, .int .i64 c.rl, .int .i64 c.rh, .int .i64 c.lh], .int .i64 size] w fun x w' => x = .returned (.tuple #[.int .i64 r, .int .i64 e]) ∧ Below w.heap.size w w' := by
  have := refHigh_any c size w W ws; rw [h] at this; exact this

set_option maxRecDepth 100000 in
set_option maxHeartbeats 2000000 in
theorem refAsked_any (c : Cfg) (size h n : Int) (w : World) (W : c.Wf) (ws : (Lit.int .i64 size).wf = true) :
    Calls Try.prog 34 #[.agg #[.int .u8 c.tag, .int .i64 c.most, .int .i64 c.seg, .int .i64 c.least, .int .i64 c.den, .int .i64 c.ll, .int .i64 c.rl, .int .i64 c.rh, .int .i64 c.lh], .int .i64 size, .int .i64 h, .int .i64 n] w fun e w' => e = .returned (.int .i64 (askedV c size h n).2) ∧ Below w.heap.size w w' := by
  rcases highV_cases c size with ⟨e, he, hn⟩ | ⟨H, hH⟩
  · have HV := Lib.hid (congrArg Prod.snd (askedV_err (h := h) (n := n) he hn))
    have HC := Lib.hid (fun w => refHigh_is c size w W ws _ _ he)
    have hne : (e == 0) = false := by simp [hn]
    clear he W ws hn
    go_enter Try.func34, Try.ntmps34
    go_wp2_with fail
    refine (HC.out _).mono ?_
    rintro e w' ⟨rfl, hb⟩
    go_wp2
    go_ret
    exact ⟨ret_int HV.out.symm, box_below (box_first hb)⟩
  · have HC := Lib.hid (fun w => refHigh_is c size w W ws _ _ hH)
    obtain ⟨_, F, f1, f2, _, f3, f4, f5⟩ := high_facts hH
    have hw : h < 0 ∨ (¬ h < 0 ∧ H < h) ∨ (¬ h < 0 ∧ ¬ H < h ∧ n < 0) ∨ (¬ h < 0 ∧ ¬ H < h ∧ ¬ n < 0) := by omega
    rcases hw with h1 | ⟨h1, h2⟩ | ⟨h1, h2, h3⟩ | ⟨h1, h2, h3⟩
    case inr.inr.inr =>
      obtain ⟨k, rfl⟩ := Int.eq_ofNat_of_zero_le (show 0 ≤ h by omega)
      have hwide := wide_le F f1 f2 (k := k) (by omega)
      have hwk : wide c (k : Int) = c.seg * ((2 ^ k : Nat) : Int) := by unfold wide; rw [Int.toNat_natCast]
      have HW := Lib.hid (fun w => refWide_any c k w (by omega) ⟨hwide.2, by omega⟩)
      generalize c.seg * ((2 ^ k : Nat) : Int) = wd at *
      by_cases h4 : wd < n
      · have HV := Lib.hid (congrArg Prod.snd (askedV_arg (h := (k : Int)) (n := n) hH (by rw [hwk]; omega)))
        clear hH W ws hwk F f1 f2 f3
        go_enter Try.func34, Try.ntmps34
        go_wp2_with fail
        refine (HC.out _).mono ?_
        rintro e w' ⟨rfl, hb⟩
        replace hb := box_first hb
        obtain ⟨k0, k1, k2, k3, k4, k5, k6, k7, k8⟩ := cells9 hb
        go_wp2_with fail
        refine (HW.out _).mono ?_
        rintro e w2 ⟨rfl, hb2⟩
        replace hb := bstep1 hb hb2 (by simp)
        go_wp2
        go_ret
        exact ⟨ret_int HV.out.symm, box_below hb⟩
      · have HV := Lib.hid (congrArg Prod.snd (askedV_ok (h := (k : Int)) (n := n) hH (by rw [hwk]; omega)))
        clear hH W ws hwk F f1 f2 f3
        go_enter Try.func34, Try.ntmps34
        go_wp2_with fail
        refine (HC.out _).mono ?_
        rintro e w' ⟨rfl, hb⟩
        replace hb := box_first hb
        obtain ⟨k0, k1, k2, k3, k4, k5, k6, k7, k8⟩ := cells9 hb
        go_wp2_with fail
        refine (HW.out _).mono ?_
        rintro e w2 ⟨rfl, hb2⟩
        replace hb := bstep1 hb hb2 (by simp)
        go_wp2
        go_ret
        exact ⟨ret_int HV.out.symm, box_below hb⟩
    all_goals
      have HV := Lib.hid (congrArg Prod.snd (askedV_arg (h := h) (n := n) hH (by omega)))
      clear hH W ws F f1 f2 f3
      go_enter Try.func34, Try.ntmps34
      go_wp2_with fail
      refine (HC.out _).mono ?_
      rintro e w' ⟨rfl, hb⟩
      replace hb := box_first hb
      obtain ⟨k0, k1, k2, k3, k4, k5, k6, k7, k8⟩ := cells9 hb
      go_wp2
      go_ret
      exact ⟨ret_int HV.out.symm, box_below hb⟩

theorem refAsked_is (c : Cfg) (size h n : Int) (w : World) (W : c.Wf) (ws : (Lit.int .i64 size).wf = true) (r e : Int) (ha : askedV c size h n = (r, e)) :
    Calls Try.prog 34 #[.agg #[.int .u8 c.tag, .int .i64 c.most, .int .i64 c.seg, .int .i64 c.least, .int .i64 c.den, .int .i64 c.ll, .int .i64 c.rl, .int .i64 c.rh, .int .i64 c.lh], .int .i64 size, .int .i64 h, .int .i64 n] w fun x w' => x = .returned (.int .i64 e) ∧ Below w.heap.size w w' := by
  have := refAsked_any c size h n w W ws; rw [ha] at this; exact this

set_option maxRecDepth 100000 in
set_option maxHeartbeats 2000000 in
theorem refFull_any (c : Cfg) (size h n : Int) (w : World) (W : c.Wf) (ws : (Lit.int .i64 size).wf = true) :
    Calls Try.prog 16 #[.agg #[.int .u8 c.tag, .int .i64 c.most, .int .i64 c.seg, .int .i64 c.least, .int .i64 c.den, .int .i64 c.ll, .int .i64 c.rl, .int .i64 c.rh, .int .i64 c.lh], .int .i64 size, .int .i64 h, .int .i64 n] w fun e w' => e = .returned (.tuple #[.bool (fullV c size h n).1, .int .i64 (fullV c size h n).2]) ∧ Below w.heap.size w w' := by
  rcases askedV_cases c size h n with ⟨e, he, hn⟩ | ⟨H, k, hA, hH, rfl, hk, hn0, hn1⟩
  · have HV := Lib.hid (fullV_err he hn)
    have HC := Lib.hid (fun w => refAsked_is c size h n w W ws _ _ he)
    have hne : (e != 0) = true := by simp [hn]
    clear he W ws hn
    go_enter Try.func16, Try.ntmps16
    go_wp2_with fail
    refine (HC.out _).mono ?_
    rintro e w' ⟨rfl, hb⟩
    go_wp2
    go_ret2
    exact ⟨ret_bi HV.out, box_below (box_first hb)⟩
  · have HC := Lib.hid (fun w => refAsked_is c size k n w W ws _ _ hA)
    have hp := (high_facts hH).2.2.2.2.1
    have HN := Lib.hid (fun w => refNotMany_any c size H n k w (win_of hH hk hn0 hn1))
    have HV := Lib.hid (fullV_ok hA)
    generalize fullB c size k n = x at HN HV
    clear hA W ws hH hn1 hp
    go_enter Try.func16, Try.ntmps16
    go_wp2_with fail
    refine (HC.out _).mono ?_
    rintro e w' ⟨rfl, hb⟩
    replace hb := box_first hb
    obtain ⟨k0, k1, k2, k3, k4, k5, k6, k7, k8⟩ := cells9 hb
    go_wp2_with fail
    refine (HN.out _).mono ?_
    rintro e w2 ⟨rfl, hb2⟩
    replace hb := bstep1 hb hb2 (by simp)
    go_wp2
    go_ret2
    exact ⟨ret_bi HV.out, box_below hb⟩

set_option maxRecDepth 100000 in
set_option maxHeartbeats 2000000 in
theorem refSparse_any (c : Cfg) (size h n : Int) (w : World) (W : c.Wf) (ws : (Lit.int .i64 size).wf = true) :
    Calls Try.prog 18 #[.agg #[.int .u8 c.tag, .int .i64 c.most, .int .i64 c.seg, .int .i64 c.least, .int .i64 c.den, .int .i64 c.ll, .int .i64 c.rl, .int .i64 c.rh, .int .i64 c.lh], .int .i64 size, .int .i64 h, .int .i64 n] w fun e w' => e = .returned (.tuple #[.bool (sparseV c size h n).1, .int .i64 (sparseV c size h n).2]) ∧ Below w.heap.size w w' := by
  rcases askedV_cases c size h n with ⟨e, he, hn⟩ | ⟨H, k, hA, hH, rfl, hk, hn0, hn1⟩
  · have HV := Lib.hid (sparseV_err he hn)
    have HC := Lib.hid (fun w => refAsked_is c size h n w W ws _ _ he)
    have hne : (e != 0) = true := by simp [hn]
    clear he W ws hn
    go_enter Try.func18, Try.ntmps18
    go_wp2_with fail
    refine (HC.out _).mono ?_
    rintro e w' ⟨rfl, hb⟩
    go_wp2
    go_ret2
    exact ⟨ret_bi HV.out, box_below (box_first hb)⟩
  · have HC := Lib.hid (fun w => refAsked_is c size k n w W ws _ _ hA)
    have hp := (high_facts hH).2.2.2.2.1
    have HN := Lib.hid (fun w => refNotFew_any c size H n k w (win_of hH hk hn0 hn1) hp)
    have HV := Lib.hid (sparseV_ok hA)
    generalize sparseB c size k n = x at HN HV
    clear hA W ws hH hn1 hp
    go_enter Try.func18, Try.ntmps18
    go_wp2_with fail
    refine (HC.out _).mono ?_
    rintro e w' ⟨rfl, hb⟩
    replace hb := box_first hb
    obtain ⟨k0, k1, k2, k3, k4, k5, k6, k7, k8⟩ := cells9 hb
    go_wp2_with fail
    refine (HN.out _).mono ?_
    rintro e w2 ⟨rfl, hb2⟩
    replace hb := bstep1 hb hb2 (by simp)
    go_wp2
    go_ret2
    exact ⟨ret_bi HV.out, box_below hb⟩

theorem bstep0 {W w1 w2 : World} (h : Below W.heap.size W w1) (h2 : Below w1.heap.size w1 w2) : Below W.heap.size W w2 := h.trans (h2.mono h.size)

/-- A call in a law: the fields are in their box in every world of the walk. -/
theorem lawStep {c : Cfg} {w w1 w2 : World} (hB : Below (w.heap.size + 1) (w.alloc (.cells #[.int .u8 c.tag, .int .i64 c.most, .int .i64 c.seg, .int .i64 c.least, .int .i64 c.den, .int .i64 c.ll, .int .i64 c.rl, .int .i64 c.rh, .int .i64 c.lh] 23)) w1) (h2 : Below w1.heap.size w1 w2) : Below (w.heap.size + 1) (w.alloc (.cells #[.int .u8 c.tag, .int .i64 c.most, .int .i64 c.seg, .int .i64 c.least, .int .i64 c.den, .int .i64 c.ll, .int .i64 c.rl, .int .i64 c.rh, .int .i64 c.lh] 23)) w2 := bstep1 hB h2 (by simp)

set_option maxRecDepth 100000 in
set_option maxHeartbeats 4000000 in
theorem confTells (c : Cfg) (n : Int) (W : c.Wf) (wn : (Lit.int .i64 n).wf = true) (w : World) :
    Calls Try.prog 3 #[.agg #[.int .u8 c.tag, .int .i64 c.most, .int .i64 c.seg, .int .i64 c.least, .int .i64 c.den, .int .i64 c.ll, .int .i64 c.rl, .int .i64 c.rh, .int .i64 c.lh], .int .i64 n] w fun e w' => e = .returned (.bool true) ∧ Below w.heap.size w w' := by
  have HW := Lib.hid W
  go_enter Try.func3, Try.ntmps3
  go_wp2_with fail
  refine (cap_any c n _ HW.out).mono ?_
  rintro e w1 ⟨rfl, hb⟩
  replace hb := box_first hb
  obtain ⟨k0, k1, k2, k3, k4, k5, k6, k7, k8⟩ := cells9 hb
  go_wp2_with fail
  refine (refCap_any c n _ HW.out).mono ?_
  rintro e w2 ⟨rfl, hb2⟩
  replace hb := lawStep hb hb2
  clear k0 k1 k2 k3 k4 k5 k6 k7 k8
  obtain ⟨k0, k1, k2, k3, k4, k5, k6, k7, k8⟩ := cells9 hb
  go_wp2_with fail
  refine (high_any c n _ HW.out wn).mono ?_
  rintro e w3 ⟨rfl, hb3⟩
  replace hb := lawStep hb hb3
  clear k0 k1 k2 k3 k4 k5 k6 k7 k8
  obtain ⟨k0, k1, k2, k3, k4, k5, k6, k7, k8⟩ := cells9 hb
  go_wp2_with fail
  refine (refHigh_any c n _ HW.out wn).mono ?_
  rintro e w4 ⟨rfl, hb4⟩
  replace hb := lawStep hb hb4
  clear k0 k1 k2 k3 k4 k5 k6 k7 k8
  obtain ⟨k0, k1, k2, k3, k4, k5, k6, k7, k8⟩ := cells9 hb
  go_wp2_with fail
  refine region_qb (w.alloc (.cells #[.int .u8 c.tag, .int .i64 c.most, .int .i64 c.seg, .int .i64 c.least, .int .i64 c.den, .int .i64 c.ll, .int .i64 c.rl, .int .i64 c.rh, .int .i64 c.lh] 23)) (w.heap.size + 1) (hb) mixed (by kernel_rfl) fun w5 hB => ?_
  obtain ⟨c0, c1, c2, c3, c4, c5, c6, c7, c8⟩ := cells9 hB
  have k0 := cell_regrown c0; have k1 := cell_regrown c1; have k2 := cell_regrown c2; have k3 := cell_regrown c3; have k4 := cell_regrown c4; have k5 := cell_regrown c5; have k6 := cell_regrown c6; have k7 := cell_regrown c7; have k8 := cell_regrown c8
  clear c0 c1 c2 c3 c4 c5 c6 c7 c8
  repeat (first | go_big_quiet_skip | quiet_step (first | exact Calls.regrown_of (check_any c _ HW.out) | exact Calls.regrown_of (refCheck_any c _ HW.out)))
  refine wpQuiet_nil ?_
  intro _ hw'
  obtain ⟨⟨dq, osq⟩, hw''⟩ := hw'
  subst hw''
  replace hB := hB.trans ((below_regrown w5 dq osq).mono (by have := hB.size; simp at this; omega))
  clear k0 k1 k2 k3 k4 k5 k6 k7 k8
  clear hb
  go_wp2
  go_ret
  exact ⟨rfl, box_below hB⟩

set_option maxRecDepth 100000 in
set_option maxHeartbeats 4000000 in
theorem confAsks (c : Cfg) (size h n : Int) (W : c.Wf) (ws : (Lit.int .i64 size).wf = true) (_wh : (Lit.int .i64 h).wf = true) (_wn : (Lit.int .i64 n).wf = true) (w : World) :
    Calls Try.prog 4 #[.agg #[.int .u8 c.tag, .int .i64 c.most, .int .i64 c.seg, .int .i64 c.least, .int .i64 c.den, .int .i64 c.ll, .int .i64 c.rl, .int .i64 c.rh, .int .i64 c.lh], .int .i64 size, .int .i64 h, .int .i64 n] w fun e w' => e = .returned (.bool true) ∧ Below w.heap.size w w' := by
  have HW := Lib.hid W
  have HS := Lib.hid ws
  clear W ws _wh _wn
  go_enter Try.func4, Try.ntmps4
  go_wp2_with fail
  refine (full_any c size h n _ HW.out HS.out).mono ?_
  rintro e w1 ⟨rfl, hb⟩
  replace hb := box_first hb
  obtain ⟨k0, k1, k2, k3, k4, k5, k6, k7, k8⟩ := cells9 hb
  go_wp2_with fail
  refine (refFull_any c size h n _ HW.out HS.out).mono ?_
  rintro e w2 ⟨rfl, hb2⟩
  replace hb := lawStep hb hb2
  clear hb2 k0 k1 k2 k3 k4 k5 k6 k7 k8
  obtain ⟨k0, k1, k2, k3, k4, k5, k6, k7, k8⟩ := cells9 hb
  go_wp2_with fail
  refine (sparse_any c size h n _ HW.out HS.out).mono ?_
  rintro e w3 ⟨rfl, hb2⟩
  replace hb := lawStep hb hb2
  clear hb2 k0 k1 k2 k3 k4 k5 k6 k7 k8
  obtain ⟨k0, k1, k2, k3, k4, k5, k6, k7, k8⟩ := cells9 hb
  go_wp2_with fail
  refine (refSparse_any c size h n _ HW.out HS.out).mono ?_
  rintro e w4 ⟨rfl, hb2⟩
  replace hb := lawStep hb hb2
  clear hb2 k0 k1 k2 k3 k4 k5 k6 k7 k8
  go_wp2
  go_ret
  exact ⟨ret_bool (by simp), box_below hb⟩

end Go.Proofs.Ythgeghdegpgijaa.Conf
