/- Plain facts on configs, capacities and windows: no walk in sight. -/
import Derived.Test.YthgeghdegpgijaaConfRef3
namespace Go.Proofs.Ythgeghdegpgijaa.Conf
open Go.RowKit Go.Proofs.Ythgeghdegpgijaa Go.Proofs.Ythgeghdegpgijaa.Frac

theorem pow_cast (k : Nat) : ((2 ^ (k + 1) : Nat) : Int) = 2 * ((2 ^ k : Nat) : Int) := by
  rw [Nat.pow_succ, Int.natCast_mul, Int.mul_comm]; rfl

theorem powB_of (k : Nat) : powB ((2 ^ k : Nat) : Int) = true := by
  unfold powB
  have := Nat.two_pow_pos k
  simp only [Int.toNat_natCast, Nat.log2_two_pow, Bool.and_eq_true, decide_eq_true_eq]
  exact ⟨by omega, trivial⟩

/-- A capacity is a segment, doubled as often as its height says. -/
theorem size_height {c : Cfg} (F : c.Fine) {size : Int} (hp : powB size = true) (hl : c.seg ≤ size) : ∃ k : Nat, heightV c size = (k : Int) ∧ size = c.seg * ((2 ^ k : Nat) : Int) := by
  obtain ⟨a, ha⟩ := pow_of_powB hp
  obtain ⟨s, hs⟩ := pow_of_powB F.s3
  have hle : s ≤ a := by
    rcases Nat.lt_or_ge a s with h | h
    · exfalso
      have := Nat.pow_lt_pow_right (show 1 < 2 by decide) h
      omega
    · exact h
  obtain ⟨k, rfl⟩ : ∃ k, a = s + k := ⟨a - s, by omega⟩
  refine ⟨k, ?_, ?_⟩
  · unfold heightV
    rw [ha, hs, Nat.pow_add, Int.natCast_mul, Int.mul_ediv_cancel_left _ (by have := Nat.two_pow_pos s; omega), Int.toNat_natCast, Nat.log2_two_pow]
  · rw [ha, hs, Nat.pow_add, Int.natCast_mul]

theorem height_of {c : Cfg} (F : c.Fine) (k : Nat) : heightV c (c.seg * ((2 ^ k : Nat) : Int)) = (k : Int) := by
  unfold heightV
  rw [Int.mul_ediv_cancel_left _ (by have := F.s1; omega), Int.toNat_natCast, Nat.log2_two_pow]

theorem powB_seg {c : Cfg} (F : c.Fine) (k : Nat) : powB (c.seg * ((2 ^ k : Nat) : Int)) = true := by
  obtain ⟨s, hs⟩ := pow_of_powB F.s3
  rw [hs, ← Int.natCast_mul, ← Nat.pow_add]
  exact powB_of _

/-- The least capacity that takes n pairs. -/
theorem takesAux_spec (c : Cfg) (n : Int) : ∀ (f : Nat) (size : Int), ∃ j : Nat, takesAux c n f size = size * ((2 ^ j : Nat) : Int) ∧ j ≤ f ∧ (∀ i, i < j → c.rh * (size * ((2 ^ i : Nat) : Int)) < n * c.den) ∧ (j < f → ¬ c.rh * (size * ((2 ^ j : Nat) : Int)) < n * c.den) := by
  intro f
  induction f with
  | zero => intro size; exact ⟨0, by simp [takesAux], Nat.le_refl _, fun i hi => absurd hi (Nat.not_lt_zero _), fun h => absurd h (Nat.lt_irrefl _)⟩
  | succ f ih =>
    intro size
    by_cases h : c.rh * size < n * c.den
    · obtain ⟨j, h1, h2, h3, h4⟩ := ih (2 * size)
      have e : ∀ i : Nat, 2 * size * ((2 ^ i : Nat) : Int) = size * ((2 ^ (i + 1) : Nat) : Int) := fun i => by rw [pow_cast, Int.mul_comm 2 size, Int.mul_assoc]
      refine ⟨j + 1, by rw [takesAux_go h, h1, e], by omega, fun i hi => ?_, fun hj => ?_⟩
      · cases i with
        | zero => simpa using h
        | succ i => rw [← e]; exact h3 i (by omega)
      · rw [← e]; exact h4 (by omega)
    · exact ⟨0, by rw [takesAux_stop h]; simp, Nat.zero_le _, fun i hi => absurd hi (Nat.not_lt_zero _), fun _ => by simpa using h⟩

theorem takesV_spec {c : Cfg} (F : c.Fine) {n : Int} (hn : 0 ≤ n) (hm : n ≤ 16384) : ∃ j : Nat, takesV c n = c.least * ((2 ^ j : Nat) : Int) ∧ (∀ i, i < j → c.rh * (c.least * ((2 ^ i : Nat) : Int)) < n * c.den) ∧ ¬ c.rh * takesV c n < n * c.den := by
  obtain ⟨j, h1, h2, h3, h4⟩ := takesAux_spec c n 20 c.least
  have hb := takesV_bounds F hn hm
  have h5 : takesV c n = c.least * ((2 ^ j : Nat) : Int) := h1
  refine ⟨j, h5, h3, ?_⟩
  rw [h5]
  apply h4
  rcases Nat.lt_or_ge j 20 with h | h
  · exact h
  · exfalso
    have := Nat.pow_le_pow_right (show 0 < 2 by decide) h
    have l1 := F.l1
    have s1 := F.s1
    have h6 : 4 * ((2 ^ 20 : Nat) : Int) ≤ c.least * ((2 ^ j : Nat) : Int) := Int.mul_le_mul (by omega) (by omega) (by decide) (by omega)
    rw [← h5] at h6
    have : (4 : Int) * ((2 ^ 20 : Nat) : Int) = 4194304 := by decide
    omega

theorem takesV_mono {c : Cfg} (F : c.Fine) {n m : Int} (hn : 0 ≤ n) (hnm : n ≤ m) (hm : m ≤ 16384) : takesV c n ≤ takesV c m := by
  obtain ⟨j, a1, a2, a3⟩ := takesV_spec F hn (by omega)
  obtain ⟨k, b1, b2, b3⟩ := takesV_spec F (n := m) (by omega) hm
  rw [a1, b1]
  have l1 := F.l1
  have s1 := F.s1
  refine Int.mul_le_mul_of_nonneg_left ?_ (by omega)
  rcases Nat.lt_or_ge k j with h | h
  · exfalso
    have h1 := a2 k h
    rw [b1] at b3
    have h2 : n * c.den ≤ m * c.den := Int.mul_le_mul_of_nonneg_right hnm (by have := F.d1; omega)
    omega
  · have := Nat.pow_le_pow_right (show 0 < 2 by decide) h
    omega

/-- What takes pairs is a capacity of the config. -/
theorem takes_is {c : Cfg} (F : c.Fine) {n : Int} (hn : 0 ≤ n) (hm : n ≤ c.most) : powIn (takesV c n) c.least (takesV c c.most) = true := by
  have m2 := F.m2
  obtain ⟨j, a1, _, _⟩ := takesV_spec F hn (by omega)
  have hmono := takesV_mono F hn hm m2
  have l1 := F.l1
  have s1 := F.s1
  obtain ⟨b, hb⟩ := pow_of_powB F.l3
  have hp : powB (takesV c n) = true := by
    rw [a1, hb, ← Int.natCast_mul, ← Nat.pow_add]; exact powB_of _
  have hge : c.least ≤ takesV c n := by
    rw [a1]
    have h1 := Nat.two_pow_pos j
    have : c.least * 1 ≤ c.least * ((2 ^ j : Nat) : Int) := Int.mul_le_mul_of_nonneg_left (by omega) (by omega)
    omega
  simp [powIn, hp, hge, hmono]

theorem highV_yes {c : Cfg} {size : Int} (ho : okB c = true) (hp : powIn size c.least (takesV c c.most) = true) : highV c size = (heightV c size, 0) := by
  unfold highV; rw [if_pos ho, if_pos hp]

/-- How High answers, told whole. -/
theorem highV_full {c : Cfg} {size H : Int} (h : highV c size = (H, 0)) : okB c = true ∧ c.Fine ∧ powIn size c.least (takesV c c.most) = true ∧ ∃ k : Nat, H = (k : Int) ∧ size = c.seg * ((2 ^ k : Nat) : Int) ∧ heightV c size = (k : Int) ∧ k ≤ 14 := by
  obtain ⟨ho, F, f1, f2, f3, f4, f5, f6⟩ := high_facts h
  have hp : powIn size c.least (takesV c c.most) = true := by
    cases hq : powIn size c.least (takesV c c.most)
    · exfalso; unfold highV at h; rw [if_pos ho, hq] at h; simp at h
    · rfl
  obtain ⟨k, k1, k2⟩ := size_height F f3 (by have := F.l1; omega)
  exact ⟨ho, F, hp, k, by rw [f4, k1], k2, k1, by omega⟩

theorem wide_nat (c : Cfg) (k : Nat) : wide c (k : Int) = c.seg * ((2 ^ k : Nat) : Int) := by unfold wide; rw [Int.toNat_natCast]

/-- A window of all, by whole numbers. -/
theorem full_all {c : Cfg} {size n : Int} {k : Nat} (h1 : size = c.seg * ((2 ^ k : Nat) : Int)) (h2 : heightV c size = (k : Int)) : fullB c size (k : Int) n = decide (n * c.den ≤ size * c.rh) := by
  unfold fullB
  rw [h2, wide_nat, ← h1]
  unfold ofV limitV
  by_cases hk : (0 : Int) < (k : Int)
  · rw [if_pos hk, if_pos hk]
    apply decide_eq_decide.2
    rw [Int.sub_self, Int.mul_zero, Int.zero_add, ← Int.mul_assoc, ← Int.mul_assoc]
    constructor
    · intro h; exact Int.le_of_mul_le_mul_right h hk
    · intro h; exact Int.mul_le_mul_of_nonneg_right h (by omega)
  · rw [if_neg hk, if_neg hk]

theorem sparse_all {c : Cfg} {size n : Int} {k : Nat} (h1 : size = c.seg * ((2 ^ k : Nat) : Int)) (h2 : heightV c size = (k : Int)) (hk : 0 < k) : sparseB c size (k : Int) n = (decide (size = c.least) || decide (size * c.rl ≤ (n + 1) * c.den)) := by
  unfold sparseB
  rw [h2, wide_nat, ← h1]
  unfold ofV limitV
  have hk' : (0 : Int) < (k : Int) := by omega
  rw [if_pos hk', if_pos hk']
  congr 1
  apply decide_eq_decide.2
  rw [Int.sub_self, Int.mul_zero, Int.zero_add, ← Int.mul_assoc, ← Int.mul_assoc]
  constructor
  · intro h; exact Int.le_of_mul_le_mul_right h hk'
  · intro h; exact Int.mul_le_mul_of_nonneg_right h (by omega)

/-- A window that may be asked for. -/
theorem asked_yes {c : Cfg} {size H n : Int} {k : Nat} (hh : highV c size = (H, 0)) (hk : (k : Int) ≤ H) (n0 : 0 ≤ n) (n1 : n ≤ c.seg * ((2 ^ k : Nat) : Int)) : askedV c size (k : Int) n = (H, 0) :=
  askedV_ok hh (by rw [wide_nat]; omega)

/-! ### Capacities: ConfCaps -/
theorem caps_fact {c : Cfg} (ho : okB c = true) {n : Int} (hn : 0 ≤ n) (hm : n ≤ c.most) :
    ∃ k : Nat, highV c (takesV c n) = ((k : Int), 0) ∧ c.least ≤ takesV c n ∧ fullV c (takesV c n) (k : Int) n = (true, 0) ∧
      (takesV c n ≠ c.least → 1 ≤ k ∧ (fullV c (takesV c n / 2) ((k : Int) - 1) n = (false, 2) ∨ fullV c (takesV c n / 2) ((k : Int) - 1) n = (false, 0))) := by
  have F := okB_fine ho
  have m2 := F.m2
  have hp := takes_is F hn hm
  have hH := highV_yes ho hp
  obtain ⟨_, _, _, k, e1, e2, e3, e4⟩ := highV_full hH
  rw [e1] at hH
  obtain ⟨j, a1, a2, a3⟩ := takesV_spec F hn (by omega)
  have l1 := F.l1
  have s1 := F.s1
  have hge : c.least ≤ takesV c n := by simp [powIn] at hp; exact hp.1.1
  have hcap : n ≤ takesV c n := by
    have h1 : n * c.den ≤ takesV c n * c.den := by
      have h2 : takesV c n * c.rh ≤ takesV c n * c.den := Int.mul_le_mul_of_nonneg_left (by have := F.p4; have := F.p5; omega) (by omega)
      rw [Int.mul_comm c.rh] at a3
      omega
    exact Int.le_of_mul_le_mul_right h1 (by have := F.d1; omega)
  have hA := asked_yes (n := n) (k := k) hH (Int.le_refl _) hn (by rw [← e2]; exact hcap)
  refine ⟨k, hH, hge, ?_, fun hne => ?_⟩
  · rw [fullV_ok hA, full_all e2 e3, decide_eq_true (by rw [Int.mul_comm _ c.rh]; omega)]
  · have hk := height_pos F hge (by have := takesV_bounds F hn (by omega); omega) (by simp [powIn] at hp; exact hp.2) e3.symm hne
    obtain ⟨i, rfl⟩ : ∃ i, k = i + 1 := ⟨k - 1, by omega⟩
    have hj : 0 < j := by
      rcases Nat.eq_zero_or_pos j with h | h
      · exfalso; apply hne; rw [a1, h]; simp
      · exact h
    obtain ⟨l, rfl⟩ : ∃ l, j = l + 1 := ⟨j - 1, by omega⟩
    have hhalf : takesV c n / 2 = c.least * ((2 ^ l : Nat) : Int) := by
      rw [a1, pow_cast, Int.mul_left_comm]; omega
    have hhalf2 : takesV c n / 2 = c.seg * ((2 ^ i : Nat) : Int) := by
      rw [e2, pow_cast, Int.mul_left_comm]; omega
    have hlt := a2 l (by omega)
    rw [← hhalf] at hlt
    refine ⟨by omega, ?_⟩
    have hp2 : powIn (takesV c n / 2) c.least (takesV c c.most) = true := by
      have h1 : powB (takesV c n / 2) = true := by rw [hhalf2]; exact powB_seg F i
      have h2 : c.least ≤ takesV c n / 2 := by
        rw [hhalf]
        have := Nat.two_pow_pos l
        have : c.least * 1 ≤ c.least * ((2 ^ l : Nat) : Int) := Int.mul_le_mul_of_nonneg_left (by omega) (by omega)
        omega
      have h3 : takesV c n ≤ takesV c c.most := by simp [powIn] at hp; exact hp.1.2
      simp [powIn, h1, h2]; omega
    have hH2 := highV_yes ho hp2
    have e5 : heightV c (takesV c n / 2) = (i : Int) := by rw [hhalf2]; exact height_of F i
    rw [e5] at hH2
    have ei : ((i + 1 : Nat) : Int) - 1 = (i : Int) := by omega
    rw [ei]
    by_cases hn2 : n ≤ c.seg * ((2 ^ i : Nat) : Int)
    · right
      have hA2 := asked_yes (n := n) (k := i) hH2 (Int.le_refl _) hn hn2
      rw [fullV_ok hA2, full_all hhalf2 e5, decide_eq_false (by rw [Int.mul_comm _ c.rh]; omega)]
    · left
      exact fullV_err (askedV_arg hH2 (by rw [wide_nat]; omega)) (by decide)

/-! ### Twice, or half, the capacity: ConfTurns -/
theorem turns_up {c : Cfg} {size n H : Int} (hh : highV c size = (H, 0)) (hm : n ≤ c.most) (was : (n - 1) * c.den ≤ size * c.rh) (now : ¬ n * c.den ≤ size * c.rh) (n0 : 0 ≤ n - 1) (n1 : n ≤ size) :
    fullV c (2 * size) (H + 1) n = (true, 0) ∧ sparseV c (2 * size) (H + 1) n = (true, 0) := by
  obtain ⟨ho, F, hp, k, rfl, e2, e3, e4⟩ := highV_full hh
  have m2 := F.m2
  have l1 := F.l1
  have s1 := F.s1
  have hge : c.least ≤ size := by simp [powIn] at hp; exact hp.1.1
  have e2' : 2 * size = c.seg * ((2 ^ (k + 1) : Nat) : Int) := by rw [pow_cast, Int.mul_left_comm, ← e2]
  have hp2 : powIn (2 * size) c.least (takesV c c.most) = true := by
    have h1 : powB (2 * size) = true := by rw [e2']; exact powB_seg F (k + 1)
    have h3 : 2 * size ≤ takesV c c.most := by
      obtain ⟨j, a1, a2, a3⟩ := takesV_spec F (n := c.most) (by have := F.m1; omega) m2
      obtain ⟨b, hb⟩ := pow_of_powB F.l3
      have hps : powB size = true := by simp [powIn] at hp; exact hp.2
      obtain ⟨a, ha⟩ := pow_of_powB hps
      have hba : b ≤ a := by
        rcases Nat.lt_or_ge a b with h | h
        · exfalso
          have := Nat.pow_lt_pow_right (show 1 < 2 by decide) h
          omega
        · exact h
      obtain ⟨i, rfl⟩ : ∃ i, a = b + i := ⟨a - b, by omega⟩
      have hs : size = c.least * ((2 ^ i : Nat) : Int) := by rw [ha, hb, Nat.pow_add, Int.natCast_mul]
      have hij : i < j := by
        rcases Nat.lt_or_ge i j with h | h
        · exact h
        · exfalso
          apply a3
          have h5 : n * c.den ≤ c.most * c.den := Int.mul_le_mul_of_nonneg_right hm (by have := F.d1; omega)
          have h6 : takesV c c.most ≤ size := by
            rw [a1, hs]
            have := Nat.pow_le_pow_right (show 0 < 2 by decide) h
            exact Int.mul_le_mul_of_nonneg_left (by omega) (by omega)
          have h7 : c.rh * takesV c c.most ≤ c.rh * size := Int.mul_le_mul_of_nonneg_left h6 (by have := F.r1; have := F.d1; omega)
          rw [Int.mul_comm size] at now
          omega
      have h8 := Nat.pow_le_pow_right (show 0 < 2 by decide) (show i + 1 ≤ j by omega)
      have h9 : c.least * ((2 ^ (i + 1) : Nat) : Int) ≤ c.least * ((2 ^ j : Nat) : Int) := Int.mul_le_mul_of_nonneg_left (by omega) (by omega)
      rw [← a1, pow_cast, Int.mul_left_comm, ← hs] at h9
      exact h9
    simp [powIn, h1, h3]; omega
  have hH2 := highV_yes ho hp2
  have e5 : heightV c (2 * size) = ((k + 1 : Nat) : Int) := by rw [e2']; exact height_of F (k + 1)
  rw [e5] at hH2
  have ek : (k : Int) + 1 = ((k + 1 : Nat) : Int) := by omega
  rw [ek]
  have hA := asked_yes (n := n) (k := k + 1) hH2 (Int.le_refl _) (by omega) (by rw [← e2']; omega)
  rw [fullV_ok hA, sparseV_ok hA, full_all e2' e5, sparse_all e2' e5 (by omega)]
  have d1 := F.d1
  have hr := F.r1
  have r2 := F.r2
  have g1 : c.den ≤ size * c.rh := by
    have : 4 * c.rh ≤ size * c.rh := Int.mul_le_mul_of_nonneg_right (by omega) (by omega)
    omega
  have g2 : n * c.den = (n - 1) * c.den + c.den := by rw [Int.sub_mul]; omega
  have g3 : 2 * size * c.rh = 2 * (size * c.rh) := Int.mul_assoc _ _ _
  have g4 : 2 * size * c.rl ≤ size * c.rh := by
    rw [Int.mul_comm 2 size, Int.mul_assoc]
    exact Int.mul_le_mul_of_nonneg_left (by omega) (by omega)
  have g5 : (n + 1) * c.den = n * c.den + c.den := by rw [Int.add_mul]; omega
  refine ⟨?_, ?_⟩
  · rw [decide_eq_true (by omega)]
  · rw [decide_eq_true (p := 2 * size * c.rl ≤ (n + 1) * c.den) (by omega), Bool.or_true]

theorem turns_down {c : Cfg} {size n H : Int} (hh : highV c size = (H, 0)) (few : sparseB c size H n = false) (n0 : 0 ≤ n) (_n1 : n ≤ size) :
    0 < H ∧ fullV c (size / 2) (H - 1) n = (true, 0) := by
  obtain ⟨ho, F, hp, k, rfl, e2, e3, e4⟩ := highV_full hh
  have l1 := F.l1
  have s1 := F.s1
  have m2 := F.m2
  have hge : c.least ≤ size := by simp [powIn] at hp; exact hp.1.1
  have hne : size ≠ c.least := by
    intro h
    unfold sparseB at few
    rw [decide_eq_true h] at few
    simp at few
  have hps : powB size = true := by simp [powIn] at hp; exact hp.2
  have hle : size ≤ takesV c c.most := by simp [powIn] at hp; exact hp.1.2
  have htb := takesV_bounds F (n := c.most) (by have := F.m1; omega) m2
  have hk := height_pos F hge (by omega) hps e3.symm hne
  obtain ⟨i, rfl⟩ : ∃ i, k = i + 1 := ⟨k - 1, by omega⟩
  rw [sparse_all e2 e3 (by omega), decide_eq_false hne, Bool.false_or] at few
  have few' : (n + 1) * c.den < size * c.rl := by
    have := of_decide_eq_false few; omega
  have e2' : size / 2 = c.seg * ((2 ^ i : Nat) : Int) := by
    rw [e2, pow_cast, Int.mul_left_comm]; omega
  have hsz : size = 2 * (size / 2) := by rw [e2', ← Int.mul_left_comm, ← pow_cast, ← e2]
  have hp2 : powIn (size / 2) c.least (takesV c c.most) = true := by
    have h1 : powB (size / 2) = true := by rw [e2']; exact powB_seg F i
    have h2 : c.least ≤ size / 2 := by
      obtain ⟨b, hb⟩ := pow_of_powB F.l3
      obtain ⟨a, ha⟩ := pow_of_powB hps
      have hba : b < a := by
        rcases Nat.lt_or_ge b a with h | h
        · exact h
        · exfalso
          have := Nat.pow_le_pow_right (show 0 < 2 by decide) h
          omega
      have := Nat.pow_le_pow_right (show 0 < 2 by decide) (show b + 1 ≤ a by omega)
      rw [Nat.pow_succ] at this
      omega
    simp [powIn, h1, h2]; omega
  have hH2 := highV_yes ho hp2
  have e5 : heightV c (size / 2) = (i : Int) := by rw [e2']; exact height_of F i
  rw [e5] at hH2
  have d1 := F.d1
  have hr := F.r1
  have r2 := F.r2
  -- few pairs: at most an eighth of the slots
  have g1 : 8 * (size * c.rl) ≤ size * c.den := by
    rw [Int.mul_left_comm]
    exact Int.mul_le_mul_of_nonneg_left r2 (by omega)
  have g2 : (n + 1) * c.den * 8 < size * c.den := by omega
  have g3 : (n + 1) * 8 < size := by
    have : ((n + 1) * 8) * c.den < size * c.den := by rw [Int.mul_right_comm]; exact g2
    exact Int.lt_of_mul_lt_mul_right this (by omega)
  refine ⟨by omega, ?_⟩
  rw [show ((i + 1 : Nat) : Int) - 1 = (i : Int) by omega]
  have hA := asked_yes (n := n) (k := i) hH2 (Int.le_refl _) n0 (by rw [← e2']; omega)
  rw [fullV_ok hA, full_all e2' e5, decide_eq_true]
  have g4 : 2 * (size * c.rl) ≤ size * c.rh := by
    rw [Int.mul_left_comm]
    exact Int.mul_le_mul_of_nonneg_left (by omega) (by omega)
  have g5 : size * c.rh = 2 * (size / 2 * c.rh) := by rw [← Int.mul_assoc, ← hsz]
  have g6 : n * c.den ≤ (n + 1) * c.den := Int.mul_le_mul_of_nonneg_right (by omega) (by omega)
  have : 0 ≤ size * c.rl := Int.mul_nonneg (by omega) (by have := F.p1; have := F.p2; omega)
  omega

/-! ### Parts of windows: ConfShares -/
theorem okB_gap {c : Cfg} (ho : okB c = true) {size H : Int} (hh : highV c size = (H, 0)) : c.den * H ≤ (c.lh - c.rh) * c.seg := by
  obtain ⟨_, F, hp, k, rfl, e2, e3, e4⟩ := highV_full hh
  rw [okB_last F] at ho
  have h1 := of_decide_eq_true ho
  have hle : size ≤ takesV c c.most := by simp [powIn] at hp; exact hp.1.2
  have hmono : heightV c size ≤ heightV c (takesV c c.most) := by
    unfold heightV
    have hq : size / c.seg ≤ takesV c c.most / c.seg := Int.ediv_le_ediv (by have := F.s1; omega) hle
    have hlog : ∀ a b : Nat, a ≤ b → a.log2 ≤ b.log2 := fun a b hab => by
      by_cases ha : a = 0
      · rw [ha]; exact Nat.zero_le _
      · have := Nat.log2_self_le ha
        rcases Nat.lt_or_ge b.log2 a.log2 with h | h
        · exfalso
          have h2 := (Nat.log2_lt (n := b) (k := a.log2) (by omega)).1 h
          omega
        · exact h
    have := hlog (size / c.seg).toNat (takesV c c.most / c.seg).toNat (by omega)
    omega
  rw [e3] at hmono
  have : c.den * (k : Int) ≤ c.den * heightV c (takesV c c.most) := Int.mul_le_mul_of_nonneg_left hmono (by have := F.d1; omega)
  omega

theorem shares_up {c : Cfg} {size H n : Int} {h d : Nat} (hh : highV c size = (H, 0)) (hg : ((h + d : Nat) : Int) ≤ H) (n0 : 0 ≤ n) (n1 : n ≤ c.seg * ((2 ^ (h + d) : Nat) : Int)) (many : fullB c size ((h + d : Nat) : Int) n = true) (m : Int) (hm : m * ((2 ^ d : Nat) : Int) < n + ((2 ^ d : Nat) : Int)) (m0 : 0 ≤ m) :
    askedV c size (h : Int) m = (H, 0) ∧ fullB c size (h : Int) m = true := by
  obtain ⟨ho, F, hp, k, rfl, e2, e3, e4⟩ := highV_full hh
  have gap := okB_gap ho hh
  have s1 := F.s1
  have d1 := F.d1
  have hd := Nat.two_pow_pos d
  have hh2 := Nat.two_pow_pos h
  rw [Nat.pow_add, Int.natCast_mul] at n1
  unfold fullB at many ⊢
  rw [e3, wide_nat] at many ⊢
  rw [Nat.pow_add, Int.natCast_mul] at many
  generalize hP : ((2 ^ d : Nat) : Int) = P at *
  generalize hW : ((2 ^ h : Nat) : Int) = W at *
  have hP1 : 1 ≤ P := by omega
  have hW1 : 1 ≤ W := by omega
  have hmle : m ≤ c.seg * W := by
    rcases Int.lt_or_le (c.seg * W) m with hl | hl
    · exfalso
      have h1 : (c.seg * W + 1) * P ≤ m * P := Int.mul_le_mul_of_nonneg_right (by omega) (by omega)
      rw [Int.add_mul, Int.one_mul] at h1
      rw [← Int.mul_assoc] at n1
      omega
    · exact hl
  refine ⟨askedV_ok hh (by rw [wide_nat, hW]; omega), ?_⟩
  have many' := of_decide_eq_true many
  apply decide_eq_true
  have hwn : wide c (h : Int) = c.seg * W := by rw [wide_nat, hW]
  by_cases hd0 : d = 0
  · subst hd0
    have hP2 : P = 1 := by rw [← hP]; rfl
    rw [hP2] at hm many'
    have : m ≤ n := by omega
    rw [Int.mul_one] at many'
    have ho1 := (of_bounds F (H := (k : Int)) ⟨by omega, by omega⟩).1
    have h2 : m * ofV c (k : Int) ≤ n * ofV c (k : Int) := Int.mul_le_mul_of_nonneg_right this (by omega)
    simp only [Nat.add_zero] at many'
    omega
  · have hk : (0 : Int) < (k : Int) := by omega
    unfold ofV limitV at many' ⊢
    rw [if_pos hk, if_pos hk] at many' ⊢
    have hc : ((h + d : Nat) : Int) = (h : Int) + (d : Int) := by omega
    rw [hc] at many'
    -- the limits differ by what a pair more may take
    have hlim : c.lh * ((k : Int) - h) + c.rh * h = (c.lh * ((k : Int) - (h + d)) + c.rh * (h + d)) + (c.lh - c.rh) * d := by
      rw [Int.mul_sub, Int.mul_sub, Int.mul_add, Int.mul_add, Int.sub_mul]; omega
    have hgap2 : c.den * (k : Int) ≤ c.seg * W * ((c.lh - c.rh) * d) := by
      have q0 : 0 ≤ c.lh - c.rh := by have := F.p4; omega
      have q1 : (c.lh - c.rh) * c.seg ≤ (c.lh - c.rh) * c.seg * (W * d) := by
        have q2 : 0 ≤ (c.lh - c.rh) * c.seg := Int.mul_nonneg q0 (by omega)
        have q3 : 1 * 1 ≤ W * (d : Int) := Int.mul_le_mul hW1 (by omega) (by decide) (by omega)
        have q4 : (c.lh - c.rh) * c.seg * 1 ≤ (c.lh - c.rh) * c.seg * (W * d) := Int.mul_le_mul_of_nonneg_left (by omega) q2
        omega
      have q5 : c.seg * W * ((c.lh - c.rh) * d) = (c.lh - c.rh) * c.seg * (W * d) := by
        rw [Int.mul_comm (c.lh - c.rh) c.seg, Int.mul_assoc, Int.mul_assoc, Int.mul_left_comm W]
      omega
    rw [hlim, Int.mul_add]
    generalize c.lh * ((k : Int) - (h + d)) + c.rh * (h + d) = L at *
    generalize c.seg * W * ((c.lh - c.rh) * d) = G at *
    generalize hO : c.den * (k : Int) = O at *
    have hO1 : 1 ≤ O := by
      rw [← hO]
      have : 1 * 1 ≤ c.den * (k : Int) := Int.mul_le_mul d1 (by omega) (by decide) (by omega)
      omega
    -- all of it times P
    have t1 : m * P * O < (n + P) * O := Int.mul_lt_mul_of_pos_right hm (by omega)
    rw [Int.add_mul] at t1
    have t2 : c.seg * (W * P) * L = P * (c.seg * W * L) := by
      rw [← Int.mul_assoc, Int.mul_right_comm (c.seg * W) P L, Int.mul_comm]
    rw [t2] at many'
    have t3 : m * P * O = P * (m * O) := by rw [Int.mul_comm m P, Int.mul_assoc]
    rw [t3] at t1
    have t4 : P * (m * O) < P * (c.seg * W * L + O) := by rw [Int.mul_add]; omega
    have t5 := Int.lt_of_mul_lt_mul_left t4 (by omega)
    omega

theorem shares_down {c : Cfg} {size H n : Int} {h d : Nat} (hh : highV c size = (H, 0)) (hg : ((h + d : Nat) : Int) ≤ H) (n1 : n ≤ c.seg * ((2 ^ (h + d) : Nat) : Int)) (few : sparseB c size ((h + d : Nat) : Int) n = true) (m : Int) (m0 : 0 ≤ m) (hm : n < (m + 1) * ((2 ^ d : Nat) : Int)) (hm2 : m * ((2 ^ d : Nat) : Int) ≤ n) :
    askedV c size (h : Int) m = (H, 0) ∧ sparseB c size (h : Int) m = true := by
  obtain ⟨ho, F, hp, k, rfl, e2, e3, e4⟩ := highV_full hh
  have s1 := F.s1
  have d1 := F.d1
  have hd := Nat.two_pow_pos d
  have hh2 := Nat.two_pow_pos h
  rw [Nat.pow_add, Int.natCast_mul] at n1
  unfold sparseB at few ⊢
  rw [e3, wide_nat] at few ⊢
  rw [Nat.pow_add, Int.natCast_mul] at few
  generalize hP : ((2 ^ d : Nat) : Int) = P at *
  generalize hW : ((2 ^ h : Nat) : Int) = W at *
  have hP1 : 1 ≤ P := by omega
  have hW1 : 1 ≤ W := by omega
  have hmle : m ≤ c.seg * W := by
    rw [← Int.mul_assoc] at n1
    exact Int.le_of_mul_le_mul_right (Int.le_trans hm2 n1) (by omega)
  refine ⟨askedV_ok hh (by rw [wide_nat, hW]; omega), ?_⟩
  by_cases hl : size = c.least
  · rw [decide_eq_true hl]; rfl
  · rw [decide_eq_false hl, Bool.false_or] at few ⊢
    have few' := of_decide_eq_true few
    apply decide_eq_true
    have hk0 : 0 < (k : Int) := height_pos F (by simp [powIn] at hp; exact hp.1.1) (by have := takesV_bounds F (n := c.most) (by have := F.m1; omega) F.m2; simp [powIn] at hp; omega) (by simp [powIn] at hp; exact hp.2) e3.symm hl
    unfold ofV limitV at few' ⊢
    rw [if_pos hk0, if_pos hk0] at few' ⊢
    have hc : ((h + d : Nat) : Int) = (h : Int) + (d : Int) := by omega
    rw [hc] at few'
    have hlim : c.ll * ((k : Int) - h) + c.rl * h ≤ c.ll * ((k : Int) - (h + d)) + c.rl * (h + d) := by
      have q0 : 0 ≤ (c.rl - c.ll) * (d : Int) := Int.mul_nonneg (by have := F.p2; omega) (by omega)
      rw [Int.mul_sub, Int.mul_sub, Int.mul_add, Int.mul_add]
      rw [Int.sub_mul] at q0
      omega
    generalize hO : c.den * (k : Int) = O at *
    have hO1 : 1 ≤ O := by
      rw [← hO]
      have : 1 * 1 ≤ c.den * (k : Int) := Int.mul_le_mul d1 (by omega) (by decide) (by omega)
      omega
    generalize c.ll * ((k : Int) - (h + d)) + c.rl * (h + d) = L at *
    generalize c.ll * ((k : Int) - h) + c.rl * h = l at *
    have hSW : 0 ≤ c.seg * W := Int.mul_nonneg (by omega) (by omega)
    have t0 : c.seg * W * l ≤ c.seg * W * L := Int.mul_le_mul_of_nonneg_left hlim hSW
    have t1 : (n + 1) * O ≤ (m + 1) * P * O := Int.mul_le_mul_of_nonneg_right (by omega) (by omega)
    have t2 : c.seg * (W * P) * L = P * (c.seg * W * L) := by
      rw [← Int.mul_assoc, Int.mul_right_comm (c.seg * W) P L, Int.mul_comm]
    have t3 : (m + 1) * P * O = P * ((m + 1) * O) := by rw [Int.mul_comm (m + 1) P, Int.mul_assoc]
    rw [t2] at few'
    rw [t3] at t1
    have t4 := Int.le_of_mul_le_mul_left (Int.le_trans few' t1) (by omega)
    omega

end Go.Proofs.Ythgeghdegpgijaa.Conf
