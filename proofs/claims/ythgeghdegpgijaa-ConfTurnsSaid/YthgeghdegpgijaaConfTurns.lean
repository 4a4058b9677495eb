/- The walk of the law ConfTurns. -/
import Derived.Test.YthgeghdegpgijaaConfLaws2
namespace Go.Proofs.Ythgeghdegpgijaa.Conf
open Go.RowKit Go.Sort Go.Proofs.Ythgeghdegpgijaa Go.Proofs.Ythgeghdegpgijaa.Frac

theorem wf_of' (n : Int) (h0 : -9223372036854775808 ≤ n) (h1 : n ≤ 9223372036854775807) : (Lit.int .i64 n).wf = true := by
  simp [Lit.wf, IntKind.min, IntKind.max, IntKind.signed, IntKind.bits]; omega

/-- What the law asks of a window of all: the ways. -/
theorem turns_ways {c : Cfg} {size n H : Int} (hh : highV c size = (H, 0)) (bn : -9223372036854775808 ≤ n ∧ n ≤ 9223372036854775807) {was now few : Bool} {f g i : Int} (h1 : fullV c size H (wrap64 (n - 1)) = (was, f)) (h2 : fullV c size H n = (now, g)) (h3 : sparseV c size H n = (few, i)) :
    (f = 0 → g = 0 → was = true → now = false → n ≤ c.most → fullV c (2 * size) (H + 1) n = (true, 0) ∧ sparseV c (2 * size) (H + 1) n = (true, 0)) ∧ (i = 0 → few = false → 0 < H ∧ fullV c (size / 2) (H - 1) n = (true, 0)) := by
  obtain ⟨ho, F, hp, k, rfl, e2, e3, e4⟩ := highV_full hh
  have hs0 : 4 ≤ size := by have := F.s1; have := F.l1; simp [powIn] at hp; omega
  constructor
  · intro hf hg hw hn hm
    subst hf hg hw hn
    have a1 : askedV c size (k : Int) (wrap64 (n - 1)) = ((k : Int), 0) ∧ 0 ≤ wrap64 (n - 1) ∧ wrap64 (n - 1) ≤ size := by
      rcases askedV_cases c size (k : Int) (wrap64 (n - 1)) with ⟨e, he, hn⟩ | ⟨H', k', hA, hH, hk', hk, hn0, hn1⟩
      · rw [fullV_err he hn] at h1; simp at h1
      · rw [hh] at hH; simp at hH; subst hH
        have : k' = k := by omega
        subst this
        exact ⟨hA, hn0, by rw [e2]; exact hn1⟩
    have a2 : askedV c size (k : Int) n = ((k : Int), 0) ∧ 0 ≤ n ∧ n ≤ size := by
      rcases askedV_cases c size (k : Int) n with ⟨e, he, hn⟩ | ⟨H', k', hA, hH, hk', hk, hn0, hn1⟩
      · rw [fullV_err he hn] at h2; simp at h2; exact absurd h2 hn
      · rw [hh] at hH; simp at hH; subst hH
        have : k' = k := by omega
        subst this
        exact ⟨hA, hn0, by rw [e2]; exact hn1⟩
    have htb := takesV_bounds F (n := c.most) (by have := F.m1; omega) F.m2
    have hsz : size ≤ 65536 := by simp [powIn] at hp; omega
    have hw : wrap64 (n - 1) = n - 1 := by
      have := a1.2; unfold wrap64 at this ⊢; omega
    rw [hw] at h1 a1
    rw [fullV_ok a1.1, full_all e2 e3] at h1
    rw [fullV_ok a2.1, full_all e2 e3] at h2
    simp at h1 h2
    exact turns_up hh hm h1 (by omega) a1.2.1 a2.2.2
  · intro hi hf
    subst hi hf
    rcases askedV_cases c size (k : Int) n with ⟨e, he, hn⟩ | ⟨H', k', hA, hH, hk', hk, hn0, hn1⟩
    · rw [sparseV_err he hn] at h3; simp at h3; exact absurd h3 hn
    · rw [hh] at hH; simp at hH; subst hH
      have : k' = k := by omega
      subst this
      rw [sparseV_ok hA] at h3
      simp at h3
      exact turns_down hh h3 hn0 (by rw [e2]; exact hn1)

set_option maxRecDepth 100000 in
set_option maxHeartbeats 8000000 in
theorem confTurns (c : Cfg) (size n : Int) (W : c.Wf) (ws : (Lit.int .i64 size).wf = true) (wn : (Lit.int .i64 n).wf = true) (w : World) :
    Calls Try.prog 8 #[.agg #[.int .u8 c.tag, .int .i64 c.most, .int .i64 c.seg, .int .i64 c.least, .int .i64 c.den, .int .i64 c.ll, .int .i64 c.rl, .int .i64 c.rh, .int .i64 c.lh], .int .i64 size, .int .i64 n] w fun e w' => e = .returned (.bool true) ∧ Below w.heap.size w w' := by
  have HW := Lib.hid W
  have HS := Lib.hid ws
  have bn := bd64 wn
  obtain ⟨H, e, hH⟩ : ∃ H e, highV c size = (H, e) := ⟨_, _, rfl⟩
  obtain ⟨was, f, h1⟩ : ∃ was f, fullV c size H (wrap64 (n - 1)) = (was, f) := ⟨_, _, rfl⟩
  obtain ⟨now, g, h2⟩ : ∃ now g, fullV c size H n = (now, g) := ⟨_, _, rfl⟩
  obtain ⟨few, i, h3⟩ : ∃ few i, sparseV c size H n = (few, i) := ⟨_, _, rfl⟩
  have HH := Lib.hid (fun w => high_is c size w HW.out HS.out _ _ hH)
  have H1 := Lib.hid (fun w => full_is c size H (wrap64 (n - 1)) w HW.out HS.out _ _ h1)
  have H2 := Lib.hid (fun w => full_is c size H n w HW.out HS.out _ _ h2)
  have H3 := Lib.hid (fun w => sparse_is c size H n w HW.out HS.out _ _ h3)
  -- 'n - 1' as the walk writes it
  have hlow : n = -9223372036854775808 ∨ -9223372036854775808 < n := by omega
  by_cases he : e = 0
  · subst he
    obtain ⟨u1, u2⟩ := turns_ways hH bn h1 h2 h3
    have hszb : 4 ≤ size ∧ size ≤ 65536 ∧ 0 ≤ H ∧ H ≤ 14 := by
      obtain ⟨ho, F, a1, a2, _, _, a3, a4⟩ := high_facts hH
      have := F.l1; have := F.s1; omega
    have w2s : (Lit.int .i64 (2 * size)).wf = true := wf_of' _ (by omega) (by omega)
    have wsh : (Lit.int .i64 (size / 2)).wf = true := wf_of' _ (by omega) (by omega)
    have HU := Lib.hid (fun a b c' d e' => And.intro (fun w => lawFull_is c (2 * size) (H + 1) n true w HW.out w2s (u1 a b c' d e').1) (fun w => lawSparse_is c (2 * size) (H + 1) n true w HW.out w2s (u1 a b c' d e').2))
    have HD := Lib.hid (fun a b => And.intro (u2 a b).1 (fun w => lawFull_is c (size / 2) (H - 1) n true w HW.out wsh (u2 a b).2))
    have ways1 : (f == 0) = false ∨ ((f == 0) = true ∧ (g == 0) = false) ∨ ((f == 0) = true ∧ (g == 0) = true ∧ was = false) ∨ ((f == 0) = true ∧ (g == 0) = true ∧ was = true ∧ now = true) ∨ ((f == 0) = true ∧ (g == 0) = true ∧ was = true ∧ now = false ∧ c.most < n) ∨ (f = 0 ∧ g = 0 ∧ was = true ∧ now = false ∧ n ≤ c.most) := by
      by_cases q1 : f = 0
      · by_cases q2 : g = 0
        · cases was
          · simp [q1, q2]
          · cases now
            · rcases Int.lt_or_le c.most n with q3 | q3
              · simp [q1, q2, q3]
              · simp [q1, q2, q3]
            · simp [q1, q2]
        · simp [q1, q2]
      · simp [q1]
    have ways2 : (i != 0) = true ∨ (i = 0 ∧ few = true) ∨ (i = 0 ∧ few = false) := by
      by_cases q1 : i = 0
      · cases few
        · simp [q1]
        · simp [q1]
      · simp [q1]
    clear W ws hH h1 h2 h3 u1 u2 w2s wsh wn
    rcases ways1 with r1 | ⟨r1, r2⟩ | ⟨r1, r2, rfl⟩ | ⟨r1, r2, rfl, rfl⟩ | ⟨r1, r2, rfl, rfl, r3⟩ | ⟨rfl, rfl, rfl, rfl, r3⟩
    case inr.inr.inr.inr.inr =>
      have HU2 := Lib.hid (HU.out rfl rfl rfl rfl r3)
      clear HU
      rcases ways2 with s1 | ⟨rfl, rfl⟩ | ⟨rfl, rfl⟩
      case inr.inr =>
        have HD2 := Lib.hid (HD.out rfl rfl)
        have hHp := HD2.out.1
        clear HD
        go_enter Try.func8, Try.ntmps8
        go_wp2_with fail
        refine (alive_any _).mono ?_
        rintro e w' ⟨rfl, hb2⟩
        have hb := box_first hb2
        clear hb2
        obtain ⟨k0, k1, k2, k3, k4, k5, k6, k7, k8⟩ := cells9 hb
        go_wp2_with fail
        refine (HH.out _).mono ?_
        rintro e w' ⟨rfl, hb2⟩
        replace hb := lawStep hb hb2
        clear hb2 k0 k1 k2 k3 k4 k5 k6 k7 k8
        obtain ⟨k0, k1, k2, k3, k4, k5, k6, k7, k8⟩ := cells9 hb
        go_wp2_with fail
        refine (H1.out _).mono ?_
        rintro e w' ⟨rfl, hb2⟩
        replace hb := lawStep hb hb2
        clear hb2 k0 k1 k2 k3 k4 k5 k6 k7 k8
        obtain ⟨k0, k1, k2, k3, k4, k5, k6, k7, k8⟩ := cells9 hb
        go_wp2_with fail
        refine (H2.out _).mono ?_
        rintro e w' ⟨rfl, hb2⟩
        replace hb := lawStep hb hb2
        clear hb2 k0 k1 k2 k3 k4 k5 k6 k7 k8
        obtain ⟨k0, k1, k2, k3, k4, k5, k6, k7, k8⟩ := cells9 hb
        go_wp2_with fail
        refine (HU2.out.1 _).mono ?_
        rintro e w' ⟨rfl, hb2⟩
        replace hb := lawStep hb hb2
        clear hb2 k0 k1 k2 k3 k4 k5 k6 k7 k8
        obtain ⟨k0, k1, k2, k3, k4, k5, k6, k7, k8⟩ := cells9 hb
        go_wp2_with fail
        refine (HU2.out.2 _).mono ?_
        rintro e w' ⟨rfl, hb2⟩
        replace hb := lawStep hb hb2
        clear hb2 k0 k1 k2 k3 k4 k5 k6 k7 k8
        obtain ⟨k0, k1, k2, k3, k4, k5, k6, k7, k8⟩ := cells9 hb
        go_wp2_with fail
        refine (H3.out _).mono ?_
        rintro e w' ⟨rfl, hb2⟩
        replace hb := lawStep hb hb2
        clear hb2 k0 k1 k2 k3 k4 k5 k6 k7 k8
        obtain ⟨k0, k1, k2, k3, k4, k5, k6, k7, k8⟩ := cells9 hb
        go_wp2_with fail
        refine (HD2.out.2 _).mono ?_
        rintro e w' ⟨rfl, hb2⟩
        replace hb := lawStep hb hb2
        clear hb2 k0 k1 k2 k3 k4 k5 k6 k7 k8
        obtain ⟨k0, k1, k2, k3, k4, k5, k6, k7, k8⟩ := cells9 hb
        go_wp2
        go_ret
        exact ⟨rfl, box_below hb⟩
      all_goals
        clear HD
        go_enter Try.func8, Try.ntmps8
        go_wp2_with fail
        refine (alive_any _).mono ?_
        rintro e w' ⟨rfl, hb2⟩
        have hb := box_first hb2
        clear hb2
        obtain ⟨k0, k1, k2, k3, k4, k5, k6, k7, k8⟩ := cells9 hb
        go_wp2_with fail
        refine (HH.out _).mono ?_
        rintro e w' ⟨rfl, hb2⟩
        replace hb := lawStep hb hb2
        clear hb2 k0 k1 k2 k3 k4 k5 k6 k7 k8
        obtain ⟨k0, k1, k2, k3, k4, k5, k6, k7, k8⟩ := cells9 hb
        go_wp2_with fail
        refine (H1.out _).mono ?_
        rintro e w' ⟨rfl, hb2⟩
        replace hb := lawStep hb hb2
        clear hb2 k0 k1 k2 k3 k4 k5 k6 k7 k8
        obtain ⟨k0, k1, k2, k3, k4, k5, k6, k7, k8⟩ := cells9 hb
        go_wp2_with fail
        refine (H2.out _).mono ?_
        rintro e w' ⟨rfl, hb2⟩
        replace hb := lawStep hb hb2
        clear hb2 k0 k1 k2 k3 k4 k5 k6 k7 k8
        obtain ⟨k0, k1, k2, k3, k4, k5, k6, k7, k8⟩ := cells9 hb
        go_wp2_with fail
        refine (HU2.out.1 _).mono ?_
        rintro e w' ⟨rfl, hb2⟩
        replace hb := lawStep hb hb2
        clear hb2 k0 k1 k2 k3 k4 k5 k6 k7 k8
        obtain ⟨k0, k1, k2, k3, k4, k5, k6, k7, k8⟩ := cells9 hb
        go_wp2_with fail
        refine (HU2.out.2 _).mono ?_
        rintro e w' ⟨rfl, hb2⟩
        replace hb := lawStep hb hb2
        clear hb2 k0 k1 k2 k3 k4 k5 k6 k7 k8
        obtain ⟨k0, k1, k2, k3, k4, k5, k6, k7, k8⟩ := cells9 hb
        go_wp2_with fail
        refine (H3.out _).mono ?_
        rintro e w' ⟨rfl, hb2⟩
        replace hb := lawStep hb hb2
        clear hb2 k0 k1 k2 k3 k4 k5 k6 k7 k8
        obtain ⟨k0, k1, k2, k3, k4, k5, k6, k7, k8⟩ := cells9 hb
        go_wp2
        go_ret
        exact ⟨rfl, box_below hb⟩
    all_goals
      clear HU
      rcases ways2 with s1 | ⟨rfl, rfl⟩ | ⟨rfl, rfl⟩
      case inr.inr =>
        have HD2 := Lib.hid (HD.out rfl rfl)
        have hHp := HD2.out.1
        clear HD
        go_enter Try.func8, Try.ntmps8
        go_wp2_with fail
        refine (alive_any _).mono ?_
        rintro e w' ⟨rfl, hb2⟩
        have hb := box_first hb2
        clear hb2
        obtain ⟨k0, k1, k2, k3, k4, k5, k6, k7, k8⟩ := cells9 hb
        go_wp2_with fail
        refine (HH.out _).mono ?_
        rintro e w' ⟨rfl, hb2⟩
        replace hb := lawStep hb hb2
        clear hb2 k0 k1 k2 k3 k4 k5 k6 k7 k8
        obtain ⟨k0, k1, k2, k3, k4, k5, k6, k7, k8⟩ := cells9 hb
        go_wp2_with fail
        refine (H1.out _).mono ?_
        rintro e w' ⟨rfl, hb2⟩
        replace hb := lawStep hb hb2
        clear hb2 k0 k1 k2 k3 k4 k5 k6 k7 k8
        obtain ⟨k0, k1, k2, k3, k4, k5, k6, k7, k8⟩ := cells9 hb
        go_wp2_with fail
        refine (H2.out _).mono ?_
        rintro e w' ⟨rfl, hb2⟩
        replace hb := lawStep hb hb2
        clear hb2 k0 k1 k2 k3 k4 k5 k6 k7 k8
        obtain ⟨k0, k1, k2, k3, k4, k5, k6, k7, k8⟩ := cells9 hb
        go_wp2_with fail
        refine (H3.out _).mono ?_
        rintro e w' ⟨rfl, hb2⟩
        replace hb := lawStep hb hb2
        clear hb2 k0 k1 k2 k3 k4 k5 k6 k7 k8
        obtain ⟨k0, k1, k2, k3, k4, k5, k6, k7, k8⟩ := cells9 hb
        go_wp2_with fail
        refine (HD2.out.2 _).mono ?_
        rintro e w' ⟨rfl, hb2⟩
        replace hb := lawStep hb hb2
        clear hb2 k0 k1 k2 k3 k4 k5 k6 k7 k8
        obtain ⟨k0, k1, k2, k3, k4, k5, k6, k7, k8⟩ := cells9 hb
        go_wp2
        go_ret
        exact ⟨rfl, box_below hb⟩
      all_goals
        clear HD
        go_enter Try.func8, Try.ntmps8
        go_wp2_with fail
        refine (alive_any _).mono ?_
        rintro e w' ⟨rfl, hb2⟩
        have hb := box_first hb2
        clear hb2
        obtain ⟨k0, k1, k2, k3, k4, k5, k6, k7, k8⟩ := cells9 hb
        go_wp2_with fail
        refine (HH.out _).mono ?_
        rintro e w' ⟨rfl, hb2⟩
        replace hb := lawStep hb hb2
        clear hb2 k0 k1 k2 k3 k4 k5 k6 k7 k8
        obtain ⟨k0, k1, k2, k3, k4, k5, k6, k7, k8⟩ := cells9 hb
        go_wp2_with fail
        refine (H1.out _).mono ?_
        rintro e w' ⟨rfl, hb2⟩
        replace hb := lawStep hb hb2
        clear hb2 k0 k1 k2 k3 k4 k5 k6 k7 k8
        obtain ⟨k0, k1, k2, k3, k4, k5, k6, k7, k8⟩ := cells9 hb
        go_wp2_with fail
        refine (H2.out _).mono ?_
        rintro e w' ⟨rfl, hb2⟩
        replace hb := lawStep hb hb2
        clear hb2 k0 k1 k2 k3 k4 k5 k6 k7 k8
        obtain ⟨k0, k1, k2, k3, k4, k5, k6, k7, k8⟩ := cells9 hb
        go_wp2_with fail
        refine (H3.out _).mono ?_
        rintro e w' ⟨rfl, hb2⟩
        replace hb := lawStep hb hb2
        clear hb2 k0 k1 k2 k3 k4 k5 k6 k7 k8
        obtain ⟨k0, k1, k2, k3, k4, k5, k6, k7, k8⟩ := cells9 hb
        go_wp2
        go_ret
        exact ⟨rfl, box_below hb⟩
  · have he' : (e == 0) = false := by simp [he]
    have he2 : (e != 0) = true := by simp [he]
    clear W ws hH h1 h2 h3 he wn
    go_enter Try.func8, Try.ntmps8
    go_wp2_with fail
    refine (alive_any _).mono ?_
    rintro e w' ⟨rfl, hb2⟩
    have hb := box_first hb2
    clear hb2
    obtain ⟨k0, k1, k2, k3, k4, k5, k6, k7, k8⟩ := cells9 hb
    go_wp2_with fail
    refine (HH.out _).mono ?_
    rintro e w' ⟨rfl, hb2⟩
    replace hb := lawStep hb hb2
    clear hb2 k0 k1 k2 k3 k4 k5 k6 k7 k8
    obtain ⟨k0, k1, k2, k3, k4, k5, k6, k7, k8⟩ := cells9 hb
    go_wp2_with fail
    refine (H1.out _).mono ?_
    rintro e w' ⟨rfl, hb2⟩
    replace hb := lawStep hb hb2
    clear hb2 k0 k1 k2 k3 k4 k5 k6 k7 k8
    obtain ⟨k0, k1, k2, k3, k4, k5, k6, k7, k8⟩ := cells9 hb
    go_wp2_with fail
    refine (H2.out _).mono ?_
    rintro e w' ⟨rfl, hb2⟩
    replace hb := lawStep hb hb2
    clear hb2 k0 k1 k2 k3 k4 k5 k6 k7 k8
    obtain ⟨k0, k1, k2, k3, k4, k5, k6, k7, k8⟩ := cells9 hb
    go_wp2_with fail
    refine (H3.out _).mono ?_
    rintro e w' ⟨rfl, hb2⟩
    replace hb := lawStep hb hb2
    clear hb2 k0 k1 k2 k3 k4 k5 k6 k7 k8
    obtain ⟨k0, k1, k2, k3, k4, k5, k6, k7, k8⟩ := cells9 hb
    go_wp2
    go_ret
    exact ⟨rfl, box_below hb⟩

end Go.Proofs.Ythgeghdegpgijaa.Conf
