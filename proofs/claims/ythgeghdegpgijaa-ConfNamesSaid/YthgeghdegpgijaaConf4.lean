/- Contracts of conf's density, Full and Sparse. -/
import Derived.Test.YthgeghdegpgijaaConf3
namespace Go.Proofs.Ythgeghdegpgijaa.Conf
open Go.RowKit Go.Sort Go.Proofs.Ythgeghdegpgijaa Go.Proofs.Ythgeghdegpgijaa.Frac

theorem high_is (c : Cfg) (size : Int) (w : World) (W : c.Wf) (ws : (Lit.int .i64 size).wf = true) (r e : Int) (h : highV c size = (r, e)) :
    Calls Try.prog 11 #[.agg #[.int .u8 c.tag, .int .i64 c.most, .int .i64 c.seg, .int .i64 c.least, .int .i64 c.den, .int .i64 c.ll, .int .i64 c.rl, .int .i64 c.rh, .int .i64 c.lh], .int .i64 size] w fun x w' => x = .returned (.tuple #[.int .i64 r, .int .i64 e]) ∧ Below w.heap.size w w' := by
  have := high_any c size w W ws; rw [h] at this; exact this

set_option maxRecDepth 100000 in
set_option maxHeartbeats 2000000 in
theorem asked_any (c : Cfg) (size h n : Int) (w : World) (W : c.Wf) (ws : (Lit.int .i64 size).wf = true) :
    Calls Try.prog 32 #[.agg #[.int .u8 c.tag, .int .i64 c.most, .int .i64 c.seg, .int .i64 c.least, .int .i64 c.den, .int .i64 c.ll, .int .i64 c.rl, .int .i64 c.rh, .int .i64 c.lh], .int .i64 size, .int .i64 h, .int .i64 n] w fun e w' => e = .returned (.tuple #[.int .i64 (askedV c size h n).1, .int .i64 (askedV c size h n).2]) ∧ Below w.heap.size w w' := by
  rcases highV_cases c size with ⟨e, he, hn⟩ | ⟨H, hH⟩
  · have HV := Lib.hid (askedV_err (h := h) (n := n) he hn)
    have HC := Lib.hid (fun w => high_is c size w W ws _ _ he)
    have hne : (e != 0) = true := by simp [hn]
    clear he W ws hn
    go_enter Try.func32, Try.ntmps32
    go_wp2_with fail
    refine (HC.out _).mono ?_
    rintro e w' ⟨rfl, hb⟩
    go_wp2
    go_ret2
    exact ⟨ret_pair HV.out, box_below (box_first hb)⟩
  · have HC := Lib.hid (fun w => high_is c size w W ws _ _ hH)
    obtain ⟨_, F, f1, f2, _, f3, f4, f5⟩ := high_facts hH
    have hw : h < 0 ∨ (¬ h < 0 ∧ H < h) ∨ (¬ h < 0 ∧ ¬ H < h ∧ n < 0) ∨ (¬ h < 0 ∧ ¬ H < h ∧ ¬ n < 0) := by omega
    rcases hw with h1 | ⟨h1, h2⟩ | ⟨h1, h2, h3⟩ | ⟨h1, h2, h3⟩
    case inr.inr.inr =>
      obtain ⟨k, rfl⟩ := Int.eq_ofNat_of_zero_le (show 0 ≤ h by omega)
      have hwide := wide_le F f1 f2 (k := k) (by omega)
      have hs : wrap64 (c.seg * 2 ^ k) = c.seg * ((2 ^ k : Nat) : Int) := by
        rw [show ((2 : Int) ^ k) = ((2 ^ k : Nat) : Int) by rw [Int.natCast_pow]; rfl]
        exact IntWalk.wrap64_in _ (by omega)
      have hwk : wide c (k : Int) = c.seg * ((2 ^ k : Nat) : Int) := by unfold wide; rw [Int.toNat_natCast]
      generalize c.seg * ((2 ^ k : Nat) : Int) = wd at *
      by_cases h4 : wd < n
      · have HV := Lib.hid (askedV_arg (h := (k : Int)) (n := n) hH (by rw [hwk]; omega))
        clear hH W ws hwk F f1 f2 f3
        go_enter Try.func32, Try.ntmps32
        go_wp2_with fail
        refine (HC.out _).mono ?_
        rintro e w' ⟨rfl, hb⟩
        replace hb := box_first hb
        obtain ⟨k0, k1, k2, k3, k4, k5, k6, k7, k8⟩ := cells9 hb
        go_wp2
        go_ret2
        exact ⟨ret_pair HV.out, box_below hb⟩
      · have HV := Lib.hid (askedV_ok (h := (k : Int)) (n := n) hH (by rw [hwk]; omega))
        clear hH W ws hwk F f1 f2 f3
        go_enter Try.func32, Try.ntmps32
        go_wp2_with fail
        refine (HC.out _).mono ?_
        rintro e w' ⟨rfl, hb⟩
        replace hb := box_first hb
        obtain ⟨k0, k1, k2, k3, k4, k5, k6, k7, k8⟩ := cells9 hb
        go_wp2
        go_ret2
        exact ⟨ret_pair HV.out, box_below hb⟩
    all_goals
      have HV := Lib.hid (askedV_arg (h := h) (n := n) hH (by omega))
      clear hH W ws F f1 f2 f3
      go_enter Try.func32, Try.ntmps32
      go_wp2_with fail
      refine (HC.out _).mono ?_
      rintro e w' ⟨rfl, hb⟩
      replace hb := box_first hb
      obtain ⟨k0, k1, k2, k3, k4, k5, k6, k7, k8⟩ := cells9 hb
      go_wp2
      go_ret2
      exact ⟨ret_pair HV.out, box_below hb⟩

set_option maxRecDepth 100000 in
set_option maxHeartbeats 2000000 in
theorem density_any (c : Cfg) (H n leaf root : Int) (k : Nat) (w : World) (F : c.Fine) (hH : 0 ≤ H ∧ H ≤ 14) (hk : (k : Int) ≤ H) (hn : 0 ≤ n ∧ n ≤ 65537) (hl : 0 ≤ leaf ∧ leaf ≤ 64) (hr : 0 ≤ root ∧ root ≤ 64) (hw : 1 ≤ c.seg * ((2 ^ k : Nat) : Int) ∧ c.seg * ((2 ^ k : Nat) : Int) ≤ 65536) :
    Calls Try.prog 33 #[.agg #[.int .u8 c.tag, .int .i64 c.most, .int .i64 c.seg, .int .i64 c.least, .int .i64 c.den, .int .i64 c.ll, .int .i64 c.rl, .int .i64 c.rh, .int .i64 c.lh], .int .i64 H, .int .i64 k, .int .i64 n, .int .i64 leaf, .int .i64 root] w fun e w' => e = .returned (.int .i64 (sgn (n * ofV c H - c.seg * ((2 ^ k : Nat) : Int) * limitV H k leaf root))) ∧ Below w.heap.size w w' := by
  obtain ⟨lb1, lb2, ⟨lb3, lb4⟩, lb5, lb6⟩ := limit_bounds (H := H) (h := (k : Int)) (leaf := leaf) (root := root) hH ⟨by omega, hk⟩ hl hr
  obtain ⟨ob1, ob2, ob3, ob4⟩ := of_bounds F hH
  have hs : wrap64 (c.seg * 2 ^ k) = c.seg * ((2 ^ k : Nat) : Int) := by
    rw [show ((2 : Int) ^ k) = ((2 ^ k : Nat) : Int) by rw [Int.natCast_pow]; rfl]
    exact IntWalk.wrap64_in _ (by omega)
  have hsgn : crossV n (c.seg * ((2 ^ k : Nat) : Int)) (limitV H k leaf root) (ofV c H) = (sgn (n * ofV c H - c.seg * ((2 ^ k : Nat) : Int) * limitV H k leaf root), 0) := by
    unfold crossV
    rw [if_pos (by rw [smallB_yes (n := n) (by omega), smallB_yes (n := c.seg * ((2 ^ k : Nat) : Int)) (by omega), smallB_yes (n := limitV H k leaf root) (by omega), smallB_yes (n := ofV c H) (by omega)]; rfl)]
  generalize c.seg * ((2 ^ k : Nat) : Int) = wd at *
  obtain ⟨d1, d2⟩ := And.intro F.d1 F.d2
  by_cases h0 : 0 < H
  · have hB : betweenV leaf root k H = (limitV H k leaf root, 0) := by
      rw [betweenV_ok (by omega) (by
        simp only [List.all_cons, List.all_nil]
        rw [smallB_yes (n := leaf) (by omega), smallB_yes (n := root) (by omega), smallB_yes (n := (k : Int)) (by omega), smallB_yes (n := H) (by omega)]; rfl)]
      unfold limitV; rw [if_pos h0]
    have ho : ofV c H = c.den * H := by unfold ofV; rw [if_pos h0]
    rw [ho] at hsgn ob1 ob2
    generalize limitV H k leaf root = lim at *
    have HB := Lib.hid (fun w => between_is leaf root k H w _ _ hB)
    have HX := Lib.hid (fun w => cross_is _ _ _ _ w _ _ hsgn)
    have Ho := Lib.hid ho
    clear hB hsgn F ho
    go_enter Try.func33, Try.ntmps33
    go_wp2_with fail
    go_quiet (fail)
    go_wp2_with fail
    refine (HB.out _).mono ?_
    rintro e w' ⟨rfl, hb⟩
    replace hb : Below (w.heap.size + 1) (w.alloc (.cells #[.int .u8 c.tag, .int .i64 c.most, .int .i64 c.seg, .int .i64 c.least, .int .i64 c.den, .int .i64 c.ll, .int .i64 c.rl, .int .i64 c.rh, .int .i64 c.lh] 23)) w' := Below.trans (below_drewN (Below.refl _ _) nq) (hb.mono (by simp))
    obtain ⟨k0, k1, k2, k3, k4, k5, k6, k7, k8⟩ := cells9 hb
    go_wp2_with fail
    refine (HX.out _).mono ?_
    rintro e w2 ⟨rfl, hb2⟩
    replace hb := bstep1 hb hb2 (by simp)
    go_wp2
    go_ret
    exact ⟨ret_int (by rw [Ho.out]), box_below hb⟩
  · have hl0 : limitV H k leaf root = root := by unfold limitV; rw [if_neg h0]
    have ho : ofV c H = c.den := by unfold ofV; rw [if_neg h0]
    rw [ho, hl0] at hsgn
    have HX := Lib.hid (fun w => cross_is _ _ _ _ w _ _ hsgn)
    have Ho := Lib.hid ho
    have Hl := Lib.hid hl0
    clear hsgn F ho hl0 ob1 ob2 lb1 lb2
    go_enter Try.func33, Try.ntmps33
    go_wp2_with fail
    go_quiet (fail)
    go_wp2_with fail
    refine (HX.out _).mono ?_
    rintro e w' ⟨rfl, hb⟩
    replace hb : Below (w.heap.size + 1) (w.alloc (.cells #[.int .u8 c.tag, .int .i64 c.most, .int .i64 c.seg, .int .i64 c.least, .int .i64 c.den, .int .i64 c.ll, .int .i64 c.rl, .int .i64 c.rh, .int .i64 c.lh] 23)) w' := Below.trans (below_drewN (Below.refl _ _) nq) (hb.mono (by simp))
    go_wp2
    go_ret
    exact ⟨ret_int (by rw [Ho.out, Hl.out]), box_below hb⟩

theorem asked_is (c : Cfg) (size h n : Int) (w : World) (W : c.Wf) (ws : (Lit.int .i64 size).wf = true) (r e : Int) (ha : askedV c size h n = (r, e)) :
    Calls Try.prog 32 #[.agg #[.int .u8 c.tag, .int .i64 c.most, .int .i64 c.seg, .int .i64 c.least, .int .i64 c.den, .int .i64 c.ll, .int .i64 c.rl, .int .i64 c.rh, .int .i64 c.lh], .int .i64 size, .int .i64 h, .int .i64 n] w fun x w' => x = .returned (.tuple #[.int .i64 r, .int .i64 e]) ∧ Below w.heap.size w w' := by
  have := asked_any c size h n w W ws; rw [ha] at this; exact this

theorem sgn_le (a b : Int) : (decide (sgn (a - b) ≤ 0)) = decide (a ≤ b) := by
  unfold sgn
  by_cases h : a - b < 0
  · rw [if_pos h]; simp; omega
  · rw [if_neg h]
    by_cases h2 : 0 < a - b
    · rw [if_pos h2]; simp; omega
    · rw [if_neg h2]; simp; omega
theorem sgn_ge (a b : Int) : (decide (0 ≤ sgn (a - b))) = decide (b ≤ a) := by
  unfold sgn
  by_cases h : a - b < 0
  · rw [if_pos h]; simp; omega
  · rw [if_neg h]
    by_cases h2 : 0 < a - b
    · rw [if_pos h2]; simp; omega
    · rw [if_neg h2]; simp; omega

theorem ret_bi {k : IntKind} {a : Bool} {c : Int} {p : Bool × Int} (h : p = (a, c)) : Ending.returned (.tuple #[.bool a, .int k c]) = .returned (.tuple #[.bool p.1, .int k p.2]) := by rw [h]

set_option maxRecDepth 100000 in
set_option maxHeartbeats 2000000 in
theorem full_any (c : Cfg) (size h n : Int) (w : World) (W : c.Wf) (ws : (Lit.int .i64 size).wf = true) :
    Calls Try.prog 15 #[.agg #[.int .u8 c.tag, .int .i64 c.most, .int .i64 c.seg, .int .i64 c.least, .int .i64 c.den, .int .i64 c.ll, .int .i64 c.rl, .int .i64 c.rh, .int .i64 c.lh], .int .i64 size, .int .i64 h, .int .i64 n] w fun e w' => e = .returned (.tuple #[.bool (fullV c size h n).1, .int .i64 (fullV c size h n).2]) ∧ Below w.heap.size w w' := by
  rcases askedV_cases c size h n with ⟨e, he, hn⟩ | ⟨H, k, hA, hH, rfl, hk, hn0, hn1⟩
  · have HV := Lib.hid (fullV_err he hn)
    have HC := Lib.hid (fun w => asked_is c size h n w W ws _ _ he)
    have hne : (e != 0) = true := by simp [hn]
    clear he W ws hn
    go_enter Try.func15, Try.ntmps15
    go_wp2_with fail
    refine (HC.out _).mono ?_
    rintro e w' ⟨rfl, hb⟩
    go_wp2
    go_ret2
    exact ⟨ret_bi HV.out, box_below (box_first hb)⟩
  · have HC := Lib.hid (fun w => asked_is c size k n w W ws _ _ hA)
    obtain ⟨_, F, f1, f2, _, f3, f4, f5⟩ := high_facts hH
    have hwide := wide_le F f1 f2 (k := k) (by omega)
    have HD := Lib.hid (fun w => density_any c H n c.lh c.rh k w F ⟨f4, f5⟩ hk ⟨hn0, by omega⟩ ⟨by have := F.p1; have := F.p2; have := F.p3; have := F.p4; omega, by have := F.p5; have := F.d2; omega⟩ ⟨by have := F.p1; have := F.p2; have := F.p3; omega, by have := F.p4; have := F.p5; have := F.d2; omega⟩ ⟨hwide.2, by omega⟩)
    have HV := Lib.hid (show fullV c size k n = (decide (sgn (n * ofV c H - c.seg * ((2 ^ k : Nat) : Int) * limitV H k c.lh c.rh) ≤ 0), 0) by
      rw [fullV_ok hA, sgn_le]
      unfold fullB wide
      rw [← f3, Int.toNat_natCast])
    generalize sgn (n * ofV c H - c.seg * ((2 ^ k : Nat) : Int) * limitV H k c.lh c.rh) = x at HD HV
    clear hA W ws hH F f1 f2 f3 hwide hn1
    go_enter Try.func15, Try.ntmps15
    go_wp2_with fail
    refine (HC.out _).mono ?_
    rintro e w' ⟨rfl, hb⟩
    replace hb := box_first hb
    obtain ⟨k0, k1, k2, k3, k4, k5, k6, k7, k8⟩ := cells9 hb
    go_wp2_with fail
    refine (HD.out _).mono ?_
    rintro e w2 ⟨rfl, hb2⟩
    replace hb := bstep1 hb hb2 (by simp)
    go_wp2
    go_ret2
    exact ⟨ret_bi HV.out, box_below hb⟩

set_option maxRecDepth 100000 in
set_option maxHeartbeats 2000000 in
theorem sparse_any (c : Cfg) (size h n : Int) (w : World) (W : c.Wf) (ws : (Lit.int .i64 size).wf = true) :
    Calls Try.prog 17 #[.agg #[.int .u8 c.tag, .int .i64 c.most, .int .i64 c.seg, .int .i64 c.least, .int .i64 c.den, .int .i64 c.ll, .int .i64 c.rl, .int .i64 c.rh, .int .i64 c.lh], .int .i64 size, .int .i64 h, .int .i64 n] w fun e w' => e = .returned (.tuple #[.bool (sparseV c size h n).1, .int .i64 (sparseV c size h n).2]) ∧ Below w.heap.size w w' := by
  rcases askedV_cases c size h n with ⟨e, he, hn⟩ | ⟨H, k, hA, hH, rfl, hk, hn0, hn1⟩
  · have HV := Lib.hid (sparseV_err he hn)
    have HC := Lib.hid (fun w => asked_is c size h n w W ws _ _ he)
    have hne : (e != 0) = true := by simp [hn]
    clear he W ws hn
    go_enter Try.func17, Try.ntmps17
    go_wp2_with fail
    refine (HC.out _).mono ?_
    rintro e w' ⟨rfl, hb⟩
    go_wp2
    go_ret2
    exact ⟨ret_bi HV.out, box_below (box_first hb)⟩
  · have HC := Lib.hid (fun w => asked_is c size k n w W ws _ _ hA)
    obtain ⟨_, F, f1, f2, _, f3, f4, f5⟩ := high_facts hH
    have hwide := wide_le F f1 f2 (k := k) (by omega)
    have HD := Lib.hid (fun w => density_any c H (n + 1) c.ll c.rl k w F ⟨f4, f5⟩ hk ⟨by omega, by omega⟩ ⟨by have := F.p1; omega, by have := F.p2; have := F.p3; have := F.p4; have := F.p5; have := F.d2; omega⟩ ⟨by have := F.p1; have := F.p2; omega, by have := F.p3; have := F.p4; have := F.p5; have := F.d2; omega⟩ ⟨hwide.2, by omega⟩)
    have HV := Lib.hid (show sparseV c size k n = (decide (size = c.least) || decide (0 ≤ sgn ((n + 1) * ofV c H - c.seg * ((2 ^ k : Nat) : Int) * limitV H k c.ll c.rl)), 0) by
      rw [sparseV_ok hA, sgn_ge]
      unfold sparseB wide
      rw [← f3, Int.toNat_natCast])
    generalize sgn ((n + 1) * ofV c H - c.seg * ((2 ^ k : Nat) : Int) * limitV H k c.ll c.rl) = x at HD HV
    have hnb : n ≤ 65536 := by omega
    by_cases hle : size = c.least
    · have HV2 := Lib.hid (show sparseV c size k n = (true, 0) by rw [HV.out, decide_eq_true hle]; rfl)
      have hq : (size == c.least) = true := by simp [hle]
      clear hA W ws hH F f1 f2 f3 hwide hn1 hle
      go_enter Try.func17, Try.ntmps17
      go_wp2_with fail
      refine (HC.out _).mono ?_
      rintro e w' ⟨rfl, hb⟩
      replace hb := box_first hb
      obtain ⟨k0, k1, k2, k3, k4, k5, k6, k7, k8⟩ := cells9 hb
      go_wp2
      go_ret2
      exact ⟨ret_bi HV2.out, box_below hb⟩
    · have HV2 := Lib.hid (show sparseV c size k n = (decide (0 ≤ x), 0) by rw [HV.out, decide_eq_false hle]; rfl)
      have hq : (size == c.least) = false := by simp [hle]
      clear hA W ws hH F f1 f2 f3 hwide hn1 hle
      go_enter Try.func17, Try.ntmps17
      go_wp2_with fail
      refine (HC.out _).mono ?_
      rintro e w' ⟨rfl, hb⟩
      replace hb := box_first hb
      obtain ⟨k0, k1, k2, k3, k4, k5, k6, k7, k8⟩ := cells9 hb
      go_wp2_with fail
      refine (HD.out _).mono ?_
      rintro e w2 ⟨rfl, hb2⟩
      replace hb := bstep1 hb hb2 (by simp)
      go_wp2
      go_ret2
      exact ⟨ret_bi HV2.out, box_below hb⟩

end Go.Proofs.Ythgeghdegpgijaa.Conf
