/- Even places: what the functions of package spread compute, in numbers: no program in sight. -/
namespace Go.Proofs.Ytlcagdidhdkpdaa.Spr

def mayB (n f t : Int) : Bool := decide (0 ≤ f) && decide (f ≤ t) && decide (t ≤ 65536) && decide (0 ≤ n) && decide (n ≤ t - f)
theorem mayB_iff {n f t : Int} : mayB n f t = true ↔ 0 ≤ f ∧ f ≤ t ∧ t ≤ 65536 ∧ 0 ≤ n ∧ n ≤ t - f := by
  unfold mayB; simp only [Bool.and_eq_true, decide_eq_true_eq]; omega
theorem mayB_false {n f t : Int} (h : ¬ (0 ≤ f ∧ f ≤ t ∧ t ≤ 65536 ∧ 0 ≤ n ∧ n ≤ t - f)) : mayB n f t = false := by
  rw [Bool.eq_false_iff]; exact fun g => h (mayB_iff.1 g)

/-- How many of n numbers i have i * d / n below y. -/
def cnt (n d y : Nat) : Nat := (List.range n).countP (fun i => decide (i * d / n < y))
theorem add_div_le (a b : Nat) {c : Nat} (hc : 0 < c) : a / c + b / c ≤ (a + b) / c := by
  rw [Nat.le_div_iff_mul_le hc, Nat.add_mul]
  have := Nat.div_mul_le_self a c
  have := Nat.div_mul_le_self b c
  omega
def ceilD (a b : Nat) : Nat := (a + b - 1) / b

theorem lt_ceilD (i a b : Nat) (hb : 0 < b) : i < ceilD a b ↔ i * b < a := by
  unfold ceilD
  rw [Nat.lt_iff_add_one_le, Nat.le_div_iff_mul_le hb, Nat.add_mul]
  omega
theorem countP_lt (n c : Nat) : (List.range n).countP (fun i => decide (i < c)) = min n c := by
  induction n with
  | zero => simp
  | succ n ih =>
    rw [List.range_succ, List.countP_append, ih]
    by_cases h : n < c
    · simp [h]; omega
    · simp [h]; omega
theorem cnt_min (n d y : Nat) (hd : 0 < d) : cnt n d y = min n (ceilD (y * n) d) := by
  rw [← countP_lt]
  unfold cnt
  apply List.countP_congr
  intro i hi
  have hn : 0 < n := by have := List.mem_range.1 hi; omega
  rw [decide_eq_true_eq, decide_eq_true_eq, lt_ceilD _ _ _ hd, Nat.div_lt_iff_lt_mul hn]
theorem ceilD_le (a b c : Nat) (hb : 0 < b) (h : a ≤ c * b) : ceilD a b ≤ c := by
  rcases Nat.lt_or_ge c (ceilD a b) with g | g
  · rw [lt_ceilD _ _ _ hb] at g; omega
  · exact g
/-- Of equal parts. -/
theorem cnt_part (n parts w j : Nat) (hp : 0 < parts) (hw : 0 < w) (hj : j ≤ parts) : cnt n (parts * w) (j * w) = ceilD (j * n) parts := by
  have hd : 0 < parts * w := Nat.mul_pos hp hw
  rw [cnt_min _ _ _ hd]
  have e : ceilD (j * w * n) (parts * w) = ceilD (j * n) parts := by
    have key : ∀ i, i < ceilD (j * w * n) (parts * w) ↔ i < ceilD (j * n) parts := fun i => by
      rw [lt_ceilD _ _ _ hd, lt_ceilD _ _ _ hp, ← Nat.mul_assoc, Nat.mul_right_comm j w n]
      exact ⟨fun h => Nat.lt_of_mul_lt_mul_right h, fun h => Nat.mul_lt_mul_of_pos_right h hw⟩
    have h1 := key (ceilD (j * w * n) (parts * w))
    have h2 := key (ceilD (j * n) parts)
    omega
  rw [e]
  have := ceilD_le (j * n) parts n hp (by rw [Nat.mul_comm n]; exact Nat.mul_le_mul_right _ hj)
  omega
theorem ceilD_full (n parts : Nat) (hp : 0 < parts) : ceilD (parts * n) parts = n := by
  have key : ∀ i, i < ceilD (parts * n) parts ↔ i < n := fun i => by
    rw [lt_ceilD _ _ _ hp, Nat.mul_comm parts]
    exact ⟨fun h => Nat.lt_of_mul_lt_mul_right h, fun h => Nat.mul_lt_mul_of_pos_right h hp⟩
  have h1 := key (ceilD (parts * n) parts)
  have h2 := key n
  omega
theorem ceilD_zero (b : Nat) (hb : 0 < b) : ceilD 0 b = 0 := by
  unfold ceilD; rw [Nat.zero_add]; exact Nat.div_eq_of_lt (by omega)
theorem ceilD_mono {a a' b : Nat} (h : a ≤ a') : ceilD a b ≤ ceilD a' b := Nat.div_le_div_right (by omega)
/-- A part's share is rounded down or up. -/
theorem share_bounds (n parts k : Nat) (hp : 0 < parts) : n / parts ≤ ceilD ((k + 1) * n) parts - ceilD (k * n) parts ∧ ceilD ((k + 1) * n) parts - ceilD (k * n) parts ≤ ceilD n parts := by
  have hm := ceilD_mono (b := parts) (show k * n ≤ (k + 1) * n from Nat.mul_le_mul_right _ (by omega))
  constructor
  · have : ceilD (k * n) parts + n / parts ≤ ceilD ((k + 1) * n) parts := by
      unfold ceilD
      rw [Nat.add_mul, Nat.one_mul, show k * n + n + parts - 1 = (k * n + parts - 1) + n by omega]
      exact add_div_le _ _ hp
    omega
  · have : ceilD ((k + 1) * n) parts ≤ ceilD (k * n) parts + ceilD n parts := by
      refine ceilD_le _ _ _ hp ?_
      have g : ∀ a, a ≤ ceilD a parts * parts := fun a => by
        rcases Nat.lt_or_ge (ceilD a parts * parts) a with h | h
        · rw [← lt_ceilD _ _ _ hp] at h; omega
        · exact h
      have h1 := g (k * n)
      have h2 := g n
      rw [Nat.add_mul, Nat.add_mul]
      omega
    omega

/-! ### Neighbours -/
theorem step_bounds (d n i : Nat) (hn : 0 < n) : i * d / n + d / n ≤ (i + 1) * d / n ∧ (i + 1) * d / n ≤ i * d / n + (d + n - 1) / n := by
  constructor
  · rw [Nat.add_mul, Nat.one_mul]; exact add_div_le _ _ hn
  · rw [Nat.add_mul, Nat.one_mul]
    have h1 : i * d < (i * d / n + 1) * n := by rw [Nat.add_mul, Nat.one_mul]; have := Nat.div_add_mod (i * d) n; have := Nat.mod_lt (i * d) hn; rw [Nat.mul_comm n] at *; omega
    have h2 : d ≤ (d + n - 1) / n * n := by
      rcases Nat.lt_or_ge ((d + n - 1) / n * n) d with h | h
      · rw [show (d + n - 1) / n = ceilD d n from rfl, ← lt_ceilD _ _ _ hn] at h
        exact absurd h (Nat.lt_irrefl _)
      · exact h
    have h3 : (i * d + d) / n < i * d / n + 1 + (d + n - 1) / n := by
      rw [Nat.div_lt_iff_lt_mul hn, Nat.add_mul]
      omega
    omega
theorem place_mono {d n i j : Nat} (h : i ≤ j) : i * d / n ≤ j * d / n := Nat.div_le_div_right (Nat.mul_le_mul_right _ h)
theorem last_place (d n : Nat) (hn : 0 < n) : n * d / n = d := Nat.mul_div_cancel_left _ hn

end Go.Proofs.Ytlcagdidhdkpdaa.Spr
