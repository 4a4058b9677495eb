/- The walks of the laws ConfCaps, ConfTurns and ConfShares. -/
import Derived.Test.YthgeghdegpgijaaConfLaws2
namespace Go.Proofs.Ythgeghdegpgijaa.Conf
open Go.RowKit Go.Sort Go.Proofs.Ythgeghdegpgijaa Go.Proofs.Ythgeghdegpgijaa.Frac

theorem capV_bad {c : Cfg} {n : Int} (h : okB c = false) : capV c n = (0, 50) := by unfold capV; rw [h]; rfl
theorem capV_arg {c : Cfg} {n : Int} (h : okB c = true) (h1 : n < 0) : capV c n = (0, 2) := by unfold capV; rw [if_pos h, if_pos h1]
theorem capV_many {c : Cfg} {n : Int} (h : okB c = true) (h1 : ¬ n < 0) (h2 : c.most < n) : capV c n = (0, 4) := by unfold capV; rw [if_pos h, if_neg h1, if_pos h2]
theorem capV_ok {c : Cfg} {n : Int} (h : okB c = true) (h1 : ¬ n < 0) (h2 : ¬ c.most < n) : capV c n = (takesV c n, 0) := by unfold capV; rw [if_pos h, if_neg h1, if_neg h2]

theorem wf_of (n : Int) (h0 : -9223372036854775808 ≤ n) (h1 : n ≤ 9223372036854775807) : (Lit.int .i64 n).wf = true := by
  simp [Lit.wf, IntKind.min, IntKind.max, IntKind.signed, IntKind.bits]; omega

set_option maxRecDepth 100000 in
set_option maxHeartbeats 8000000 in
theorem confCaps (c : Cfg) (n m : Int) (W : c.Wf) (_wn : (Lit.int .i64 n).wf = true) (_wm : (Lit.int .i64 m).wf = true) (w : World) :
    Calls Try.prog 5 #[.agg #[.int .u8 c.tag, .int .i64 c.most, .int .i64 c.seg, .int .i64 c.least, .int .i64 c.den, .int .i64 c.ll, .int .i64 c.rl, .int .i64 c.rh, .int .i64 c.lh], .int .i64 n, .int .i64 m] w fun e w' => e = .returned (.bool true) ∧ Below w.heap.size w w' := by
  have HW := Lib.hid W
  clear _wn _wm W
  obtain ⟨y, fe, hy⟩ : ∃ y fe, capV c m = (y, fe) := ⟨_, _, rfl⟩
  have HY := Lib.hid (fun w => cap_is c m w HW.out _ _ hy)
  cases ho : okB c
  · have HX := Lib.hid (fun w => cap_is c n w HW.out _ _ (capV_bad ho))
    clear ho hy
    go_enter Try.func5, Try.ntmps5
    go_wp2_with fail
    refine (alive_any _).mono ?_
    rintro e w' ⟨rfl, hb2⟩
    have hb := box_first hb2
    clear hb2
    obtain ⟨k0, k1, k2, k3, k4, k5, k6, k7, k8⟩ := cells9 hb
    go_wp2_with fail
    refine (HX.out _).mono ?_
    rintro e w' ⟨rfl, hb2⟩
    replace hb := lawStep hb hb2
    clear hb2 k0 k1 k2 k3 k4 k5 k6 k7 k8
    obtain ⟨k0, k1, k2, k3, k4, k5, k6, k7, k8⟩ := cells9 hb
    go_wp2_with fail
    refine (HY.out _).mono ?_
    rintro e w' ⟨rfl, hb2⟩
    replace hb := lawStep hb hb2
    clear hb2 k0 k1 k2 k3 k4 k5 k6 k7 k8
    obtain ⟨k0, k1, k2, k3, k4, k5, k6, k7, k8⟩ := cells9 hb
    go_wp2
    go_ret
    exact ⟨rfl, box_below hb⟩
  · by_cases h1 : n < 0
    · have HX := Lib.hid (fun w => cap_is c n w HW.out _ _ (capV_arg ho h1))
      clear ho hy
      go_enter Try.func5, Try.ntmps5
      go_wp2_with fail
      refine (alive_any _).mono ?_
      rintro e w' ⟨rfl, hb2⟩
      have hb := box_first hb2
      clear hb2
      obtain ⟨k0, k1, k2, k3, k4, k5, k6, k7, k8⟩ := cells9 hb
      go_wp2_with fail
      refine (HX.out _).mono ?_
      rintro e w' ⟨rfl, hb2⟩
      replace hb := lawStep hb hb2
      clear hb2 k0 k1 k2 k3 k4 k5 k6 k7 k8
      obtain ⟨k0, k1, k2, k3, k4, k5, k6, k7, k8⟩ := cells9 hb
      go_wp2_with fail
      refine (HY.out _).mono ?_
      rintro e w' ⟨rfl, hb2⟩
      replace hb := lawStep hb hb2
      clear hb2 k0 k1 k2 k3 k4 k5 k6 k7 k8
      obtain ⟨k0, k1, k2, k3, k4, k5, k6, k7, k8⟩ := cells9 hb
      go_wp2
      go_ret
      exact ⟨rfl, box_below hb⟩
    · by_cases h2 : c.most < n
      · have HX := Lib.hid (fun w => cap_is c n w HW.out _ _ (capV_many ho h1 h2))
        clear ho hy
        go_enter Try.func5, Try.ntmps5
        go_wp2_with fail
        refine (alive_any _).mono ?_
        rintro e w' ⟨rfl, hb2⟩
        have hb := box_first hb2
        clear hb2
        obtain ⟨k0, k1, k2, k3, k4, k5, k6, k7, k8⟩ := cells9 hb
        go_wp2_with fail
        refine (HX.out _).mono ?_
        rintro e w' ⟨rfl, hb2⟩
        replace hb := lawStep hb hb2
        clear hb2 k0 k1 k2 k3 k4 k5 k6 k7 k8
        obtain ⟨k0, k1, k2, k3, k4, k5, k6, k7, k8⟩ := cells9 hb
        go_wp2_with fail
        refine (HY.out _).mono ?_
        rintro e w' ⟨rfl, hb2⟩
        replace hb := lawStep hb hb2
        clear hb2 k0 k1 k2 k3 k4 k5 k6 k7 k8
        obtain ⟨k0, k1, k2, k3, k4, k5, k6, k7, k8⟩ := cells9 hb
        go_wp2
        go_ret
        exact ⟨rfl, box_below hb⟩
      · have HX := Lib.hid (fun w => cap_is c n w HW.out _ _ (capV_ok ho h1 h2))
        have F := okB_fine ho
        have m2 := F.m2
        obtain ⟨k, q1, q2, q3, q4⟩ := caps_fact ho (n := n) (by omega) (by omega)
        have hxb := takesV_bounds F (n := n) (by omega) (by omega)
        have hxy : (fe != 0) = true ∨ ((fe == 0) = true ∧ (m < n ∨ takesV c n ≤ y)) := by
          by_cases hfe : fe = 0
          · right
            refine ⟨by simp [hfe], ?_⟩
            rcases Int.lt_or_le m n with hmn | hmn
            · exact .inl hmn
            · right
              by_cases g1 : m < 0
              · omega
              · by_cases g2 : c.most < m
                · rw [capV_many ho g1 g2] at hy; simp at hy; omega
                · rw [capV_ok ho g1 g2] at hy; simp at hy; rw [← hy.1]; exact takesV_mono F (by omega) hmn (by omega)
          · left; simp [hfe]
        generalize takesV c n = x at *
        have HH := Lib.hid (fun w => high_is c x w HW.out (wf_of x (by omega) (by omega)) _ _ q1)
        have HF := Lib.hid (fun w => lawFull_is c x (k : Int) n true w HW.out (wf_of x (by omega) (by omega)) q3)
        have hfe2 : ((fe == 0) = false) ∨ ((fe == 0) = true ∧ m < n) ∨ ((fe == 0) = true ∧ ¬ m < n ∧ x ≤ y) := by
          rcases hxy with h | ⟨h, h'⟩
          · left; simpa using h
          · rcases Int.lt_or_le m n with hmn | hmn
            · exact .inr (.inl ⟨h, hmn⟩)
            · exact .inr (.inr ⟨h, by omega, by omega⟩)
        have wx2 : (Lit.int .i64 (x / 2)).wf = true := wf_of _ (by omega) (by omega)
        by_cases hl : x = c.least
        · have hl' : (x == c.least) = true := by simp [hl]
          clear ho hy F hxy q1 q3 q4 hl wx2
          rcases hfe2 with g1 | ⟨g1, g2⟩ | ⟨g1, g2, g3⟩
          all_goals
            go_enter Try.func5, Try.ntmps5
            go_wp2_with fail
            refine (alive_any _).mono ?_
            rintro e w' ⟨rfl, hb2⟩
            have hb := box_first hb2
            clear hb2
            obtain ⟨k0, k1, k2, k3, k4, k5, k6, k7, k8⟩ := cells9 hb
            go_wp2_with fail
            refine (HX.out _).mono ?_
            rintro e w' ⟨rfl, hb2⟩
            replace hb := lawStep hb hb2
            clear hb2 k0 k1 k2 k3 k4 k5 k6 k7 k8
            obtain ⟨k0, k1, k2, k3, k4, k5, k6, k7, k8⟩ := cells9 hb
            go_wp2_with fail
            refine (HY.out _).mono ?_
            rintro e w' ⟨rfl, hb2⟩
            replace hb := lawStep hb hb2
            clear hb2 k0 k1 k2 k3 k4 k5 k6 k7 k8
            obtain ⟨k0, k1, k2, k3, k4, k5, k6, k7, k8⟩ := cells9 hb
            go_wp2_with fail
            refine (HH.out _).mono ?_
            rintro e w' ⟨rfl, hb2⟩
            replace hb := lawStep hb hb2
            clear hb2 k0 k1 k2 k3 k4 k5 k6 k7 k8
            obtain ⟨k0, k1, k2, k3, k4, k5, k6, k7, k8⟩ := cells9 hb
            go_wp2_with fail
            refine (HF.out _).mono ?_
            rintro e w' ⟨rfl, hb2⟩
            replace hb := lawStep hb hb2
            clear hb2 k0 k1 k2 k3 k4 k5 k6 k7 k8
            obtain ⟨k0, k1, k2, k3, k4, k5, k6, k7, k8⟩ := cells9 hb
            go_wp2
            go_ret
            exact ⟨rfl, box_below hb⟩
        · have hl' : (x == c.least) = false := by simp [hl]
          obtain ⟨k1', q5⟩ := q4 hl
          have hkb : k ≤ 14 := by have := (highV_full q1).2.2.2; obtain ⟨k', e, _, _, e4⟩ := this; omega
          rcases q5 with q5 | q5
          all_goals
            have HG := Lib.hid (fun w => full_is c (x / 2) ((k : Int) - 1) n w HW.out wx2 _ _ q5)
            clear ho hy F hxy q1 q3 q4 hl wx2 q5
            rcases hfe2 with g1 | ⟨g1, g2⟩ | ⟨g1, g2, g3⟩
            all_goals
              go_enter Try.func5, Try.ntmps5
              go_wp2_with fail
              refine (alive_any _).mono ?_
              rintro e w' ⟨rfl, hb2⟩
              have hb := box_first hb2
              clear hb2
              obtain ⟨k0, k1, k2, k3, k4, k5, k6, k7, k8⟩ := cells9 hb
              go_wp2_with fail
              refine (HX.out _).mono ?_
              rintro e w' ⟨rfl, hb2⟩
              replace hb := lawStep hb hb2
              clear hb2 k0 k1 k2 k3 k4 k5 k6 k7 k8
              obtain ⟨k0, k1, k2, k3, k4, k5, k6, k7, k8⟩ := cells9 hb
              go_wp2_with fail
              refine (HY.out _).mono ?_
              rintro e w' ⟨rfl, hb2⟩
              replace hb := lawStep hb hb2
              clear hb2 k0 k1 k2 k3 k4 k5 k6 k7 k8
              obtain ⟨k0, k1, k2, k3, k4, k5, k6, k7, k8⟩ := cells9 hb
              go_wp2_with fail
              refine (HH.out _).mono ?_
              rintro e w' ⟨rfl, hb2⟩
              replace hb := lawStep hb hb2
              clear hb2 k0 k1 k2 k3 k4 k5 k6 k7 k8
              obtain ⟨k0, k1, k2, k3, k4, k5, k6, k7, k8⟩ := cells9 hb
              go_wp2_with fail
              refine (HF.out _).mono ?_
              rintro e w' ⟨rfl, hb2⟩
              replace hb := lawStep hb hb2
              clear hb2 k0 k1 k2 k3 k4 k5 k6 k7 k8
              obtain ⟨k0, k1, k2, k3, k4, k5, k6, k7, k8⟩ := cells9 hb
              go_wp2_with fail
              refine (HG.out _).mono ?_
              rintro e w' ⟨rfl, hb2⟩
              replace hb := lawStep hb hb2
              clear hb2 k0 k1 k2 k3 k4 k5 k6 k7 k8
              obtain ⟨k0, k1, k2, k3, k4, k5, k6, k7, k8⟩ := cells9 hb
              go_wp2
              go_ret
              exact ⟨rfl, box_below hb⟩

end Go.Proofs.Ythgeghdegpgijaa.Conf
