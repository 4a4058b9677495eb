/- The walk of the law FracOrder: it returns true. -/
import Derived.Test.YtgnniahohokbiaaFracLaws
namespace Go.Proofs.Ytgnniahohokbiaa.Frac
open Go.RowKit Go.Proofs.Ytgnniahohokbiaa

/-! ### The stage's theorem: cross products order fractions -/
/-- A fraction's sign against another one: what the law asks of three. -/
theorem crossV_ways (a b c d : Int) : (crossV a b c d = (0, 10) ∧ ¬ ([a, b, c, d].all smallB = true)) ∨ (crossV a b c d = (sgn (a * d - b * c), 0) ∧ [a, b, c, d].all smallB = true) := by
  by_cases h : [a, b, c, d].all smallB = true
  · refine .inr ⟨?_, h⟩
    simp at h
    unfold crossV; rw [if_pos (by simp [h])]
  · refine .inl ⟨?_, h⟩
    simp at h
    unfold crossV; rw [if_neg (by simpa using h)]

theorem sgn_ways (n : Int) : (sgn n = -1 ∧ n < 0) ∨ (sgn n = 0 ∧ n = 0) ∨ (sgn n = 1 ∧ 0 < n) := by
  unfold sgn
  rcases Int.lt_trichotomy n 0 with h | h | h
  · exact .inl ⟨by rw [if_pos h], h⟩
  · exact .inr (.inl ⟨by rw [if_neg (by omega), if_neg (by omega)], h⟩)
  · exact .inr (.inr ⟨by rw [if_neg (by omega), if_pos h], h⟩)
theorem sgn_neg (n : Int) : sgn (-n) = -(sgn n) := by
  rcases sgn_ways n with ⟨h, h2⟩ | ⟨h, h2⟩ | ⟨h, h2⟩ <;> rcases sgn_ways (-n) with ⟨g, g2⟩ | ⟨g, g2⟩ | ⟨g, g2⟩ <;> omega

/-- The three signs of three fractions, where all is in order. -/
theorem order_signs (a b c d x y : Int) (hb : 0 < b) (hd : 0 < d) (hy : 0 < y) :
    (sgn (a * d - b * c) ≤ 0 → sgn (c * y - d * x) ≤ 0 → sgn (a * y - b * x) ≤ 0) ∧
    (sgn (a * d - b * c) < 0 → sgn (c * y - d * x) ≤ 0 → sgn (a * y - b * x) < 0) ∧
    (sgn (a * d - b * c) = 0 → sgn (c * y - d * x) = 0 → sgn (a * y - b * x) = 0) := by
  have key : d * (a * y - b * x) = y * (a * d - b * c) + b * (c * y - d * x) := by
    simp only [Int.mul_sub]
    have e1 : d * (a * y) = y * (a * d) := by rw [Int.mul_left_comm d a y, Int.mul_left_comm y a d, Int.mul_comm d y]
    have e2 : d * (b * x) = b * (d * x) := Int.mul_left_comm _ _ _
    have e3 : y * (b * c) = b * (c * y) := by rw [Int.mul_left_comm, Int.mul_comm y c]
    omega
  generalize a * d - b * c = P at *
  generalize c * y - d * x = Q at *
  generalize a * y - b * x = R at *
  have s1 := sgn_ways P
  have s2 := sgn_ways Q
  have s3 := sgn_ways R
  have k0 : ∀ {u v : Int}, 0 < u → v ≤ 0 → u * v ≤ 0 := fun hu hv => Int.mul_nonpos_of_nonneg_of_nonpos (Int.le_of_lt hu) hv
  have kn : ∀ {u v : Int}, 0 < u → v < 0 → u * v < 0 := fun hu hv => Int.mul_neg_of_pos_of_neg hu hv
  have kp : ∀ {u v : Int}, 0 < u → 0 < v → 0 < u * v := fun hu hv => Int.mul_pos hu hv
  refine ⟨fun h1 h2 => ?_, fun h1 h2 => ?_, fun h1 h2 => ?_⟩
  · have hP : P ≤ 0 := by omega
    have hQ : Q ≤ 0 := by omega
    have p1 := k0 hy hP
    have p2 := k0 hb hQ
    by_cases hR : 0 < R
    · have := kp hd hR; omega
    · omega
  · have hP : P < 0 := by omega
    have hQ : Q ≤ 0 := by omega
    have p1 := kn hy hP
    have p2 := k0 hb hQ
    by_cases hR : 0 ≤ R
    · have : 0 ≤ d * R := Int.mul_nonneg (Int.le_of_lt hd) hR
      omega
    · omega
  · have hP : P = 0 := by omega
    have hQ : Q = 0 := by omega
    rw [hP, hQ, Int.mul_zero, Int.mul_zero, Int.add_zero] at key
    rcases Int.mul_eq_zero.1 key with h | h
    · omega
    · omega

theorem crossV_turn (a b c d p : Int) (h : crossV a b c d = (p, 0)) : crossV c d a b = (-p, 0) := by
  rcases crossV_ways a b c d with ⟨h1, _⟩ | ⟨h1, h2⟩
  · rw [h] at h1; simp at h1
  · rw [h] at h1
    simp at h1
    rcases crossV_ways c d a b with ⟨_, h4⟩ | ⟨h3, _⟩
    · exfalso; simp at h2; apply h4; simp [h2]
    · rw [h3, h1, ← sgn_neg]
      congr 2
      rw [Int.mul_comm c b, Int.mul_comm d a]; omega
theorem crossV_self (a b c d p : Int) (h : crossV a b c d = (p, 0)) : crossV a b a b = (0, 0) := by
  rcases crossV_ways a b c d with ⟨h1, _⟩ | ⟨h1, h2⟩
  · rw [h] at h1; simp at h1
  · rcases crossV_ways a b a b with ⟨_, h4⟩ | ⟨h3, _⟩
    · exfalso; simp at h2; apply h4; simp [h2]
    · rw [h3]
      congr 1
      rw [Int.mul_comm a b, Int.sub_self]; rfl
theorem crossV_twice (a b : Int) (ha : -16777216 ≤ a ∧ a ≤ 16777216) (hb : 0 < b ∧ b ≤ 16777216) : crossV (2 * a) (2 * b) a b = (0, 0) := by
  unfold crossV
  rw [if_pos (by rw [smallB_yes (n := 2 * a) (by omega), smallB_yes (n := 2 * b) (by omega), smallB_yes (n := a) (by omega), smallB_yes (n := b) (by omega)]; rfl)]
  congr 1
  have : 2 * a * b - 2 * b * a = 0 := by
    rw [Int.mul_assoc, Int.mul_assoc, Int.mul_comm a b]; omega
  rw [this]; rfl

/-- The ways that the law goes. -/
theorem order_ways (a b c d x y : Int) : ∃ p e q f r g, crossV a b c d = (p, e) ∧ crossV c d x y = (q, f) ∧ crossV a b x y = (r, g) ∧
    ((p = 0 ∧ e = 10) ∨ (e = 0 ∧ f = 10) ∨ (e = 0 ∧ f = 0 ∧ g = 10) ∨ (e = 0 ∧ f = 0 ∧ g = 0 ∧ b ≤ 0) ∨ (e = 0 ∧ f = 0 ∧ g = 0 ∧ 0 < b ∧ d ≤ 0) ∨ (e = 0 ∧ f = 0 ∧ g = 0 ∧ 0 < b ∧ 0 < d ∧ y ≤ 0) ∨
      (e = 0 ∧ f = 0 ∧ g = 0 ∧ 0 < b ∧ 0 < d ∧ 0 < y ∧ (p = -1 ∨ p = 0 ∨ p = 1) ∧ (q = -1 ∨ q = 0 ∨ q = 1) ∧ (r = -1 ∨ r = 0 ∨ r = 1) ∧ (p ≤ 0 → q ≤ 0 → r ≤ 0) ∧ (p < 0 → q ≤ 0 → r < 0) ∧ (p = 0 → q = 0 → r = 0))) := by
  rcases crossV_ways a b c d with ⟨h1, _⟩ | ⟨h1, _⟩
  · exact ⟨_, _, _, _, _, _, h1, rfl, rfl, .inl ⟨rfl, rfl⟩⟩
  rcases crossV_ways c d x y with ⟨h2, _⟩ | ⟨h2, _⟩
  · exact ⟨_, _, _, _, _, _, h1, h2, rfl, .inr (.inl ⟨rfl, rfl⟩)⟩
  rcases crossV_ways a b x y with ⟨h3, _⟩ | ⟨h3, _⟩
  · exact ⟨_, _, _, _, _, _, h1, h2, h3, .inr (.inr (.inl ⟨rfl, rfl, rfl⟩))⟩
  refine ⟨_, _, _, _, _, _, h1, h2, h3, .inr (.inr (.inr ?_))⟩
  by_cases hb : b ≤ 0
  · exact .inl ⟨rfl, rfl, rfl, hb⟩
  by_cases hd : d ≤ 0
  · exact .inr (.inl ⟨rfl, rfl, rfl, by omega, hd⟩)
  by_cases hy : y ≤ 0
  · exact .inr (.inr (.inl ⟨rfl, rfl, rfl, by omega, by omega, hy⟩))
  have O := order_signs a b c d x y (by omega) (by omega) (by omega)
  have w1 := sgn_ways (a * d - b * c)
  have w2 := sgn_ways (c * y - d * x)
  have w3 := sgn_ways (a * y - b * x)
  exact .inr (.inr (.inr ⟨rfl, rfl, rfl, by omega, by omega, by omega, by omega, by omega, by omega, O.1, O.2.1, O.2.2⟩))

set_option maxRecDepth 100000 in
set_option maxHeartbeats 8000000 in
theorem fracOrder (a b c d x y : Int) (ba : -9223372036854775808 ≤ a ∧ a ≤ 9223372036854775807) (w : World) :
    Calls Try.prog 4 #[.agg #[.int .i64 a, .int .i64 b, .int .i64 c, .int .i64 d, .int .i64 x, .int .i64 y]] w fun e w' => e = .returned (.bool true) ∧ Below w.heap.size w w' := by
  obtain ⟨p, e, q, f, r, g, h1, h2, h3, hw⟩ := order_ways a b c d x y
  have H1 := Lib.hid h1
  have H2 := Lib.hid h2
  have H3 := Lib.hid h3
  have H4 := Lib.hid (fun (h : e = 0) => crossV_turn a b c d p (by rw [h1, h]))
  have H5 := Lib.hid (fun (h : e = 0) => crossV_self a b c d p (by rw [h1, h]))
  have H6 := Lib.hid (crossV_twice a b)
  clear h1 h2 h3
  have wa : (a < -16777216 ∨ 16777216 < a ∨ 16777216 < b) ∨ (-16777216 ≤ a ∧ a ≤ 16777216 ∧ b ≤ 16777216) := by omega
  rcases hw with ⟨rfl, rfl⟩ | ⟨rfl, rfl⟩ | ⟨rfl, rfl, rfl⟩ | ⟨rfl, rfl, rfl, hb⟩ | ⟨rfl, rfl, rfl, hb, hd⟩ | ⟨rfl, rfl, rfl, hb, hd, hy⟩ | ⟨rfl, rfl, rfl, hb, hd, hy, hp, hq, hr, o1, o2, o3⟩
  case inr.inr.inr.inr.inr.inr =>
    have hp1 : -1 ≤ p := by omega
    have hp2 : p ≤ 1 := by omega
    have o4 : 0 < p ∨ 0 < q ∨ r ≤ 0 := by omega
    have o5 : 0 ≤ p ∨ 0 < q ∨ r < 0 := by omega
    have o6 : p < 0 ∨ 0 < p ∨ q < 0 ∨ 0 < q ∨ r = 0 := by omega
    clear hp hq hr o1 o2 o3 wa
    have H7 := Lib.hid (H4.out rfl)
    have H8 := Lib.hid (H5.out rfl)
    clear H4 H5
    go_enter Try.func4, Try.ntmps4
    go_wp2_with fail
    refine (alive_any _).mono ?_
    rintro e w' ⟨rfl, hn⟩
    have hB : Below w.heap.size w w' := ((Below.refl _ _).alloc (Nat.le_refl _) _).trans (hn.mono (by simp))
    have hcell : ∀ o, w'.cell? ⟨w.heap.size, o, Option.none⟩ = (w.alloc (.cells #[.int .i64 a, .int .i64 b, .int .i64 c, .int .i64 d, .int .i64 x, .int .i64 y] 28)).cell? ⟨w.heap.size, o, Option.none⟩ := fun o => hn.cell (p := ⟨w.heap.size, o, Option.none⟩) (by simp)
    have c0 : w'.cell? ⟨w.heap.size, 0, Option.none⟩ = some (.int .i64 a) := by rw [hcell]; go_simp
    have c1 : w'.cell? ⟨w.heap.size, 1, Option.none⟩ = some (.int .i64 b) := by rw [hcell]; go_simp
    have c2 : w'.cell? ⟨w.heap.size, 2, Option.none⟩ = some (.int .i64 c) := by rw [hcell]; go_simp
    have c3 : w'.cell? ⟨w.heap.size, 3, Option.none⟩ = some (.int .i64 d) := by rw [hcell]; go_simp
    have c4 : w'.cell? ⟨w.heap.size, 4, Option.none⟩ = some (.int .i64 x) := by rw [hcell]; go_simp
    have c5 : w'.cell? ⟨w.heap.size, 5, Option.none⟩ = some (.int .i64 y) := by rw [hcell]; go_simp
    clear hcell
    go_wp2_with fail
    go_quiet (fail)
    clear c0 c1 c2 c3 c4 c5
    replace hB := below_drewN hB nq
    clear hn
    go_wp2_with (first | (go_at_call 14; (first | (with_reducible refine (lawCross_is c d a b _ _ H7.out).mono ?_) | (with_reducible refine (lawCross_is a b a b 0 _ H8.out).mono ?_) | (with_reducible refine (lawCross_is (2 * a) (2 * b) a b 0 _ (H6.out ⟨by omega, by omega⟩ ⟨by omega, by omega⟩)).mono ?_)); rintro e w' ⟨rfl, hk⟩; replace hB := bstep hB hk; clear hk) | (go_at_call 9; (first | (with_reducible refine (cross_is _ _ _ _ _ _ _ H1.out).mono ?_) | (with_reducible refine (cross_is _ _ _ _ _ _ _ H2.out).mono ?_) | (with_reducible refine (cross_is _ _ _ _ _ _ _ H3.out).mono ?_)); rintro e w' ⟨rfl, hk⟩; replace hB := bstep hB hk; clear hk))
    all_goals
      go_ret
      first | exact ⟨rfl, hB⟩ | (exfalso; first | omega | (simp only [bne_iff_ne, ne_eq, beq_iff_eq] at *; omega) | (go_ways; fail))
  all_goals
    clear wa ba
    go_enter Try.func4, Try.ntmps4
    go_wp2_with fail
    refine (alive_any _).mono ?_
    rintro e w' ⟨rfl, hn⟩
    have hB : Below w.heap.size w w' := ((Below.refl _ _).alloc (Nat.le_refl _) _).trans (hn.mono (by simp))
    have hcell : ∀ o, w'.cell? ⟨w.heap.size, o, Option.none⟩ = (w.alloc (.cells #[.int .i64 a, .int .i64 b, .int .i64 c, .int .i64 d, .int .i64 x, .int .i64 y] 28)).cell? ⟨w.heap.size, o, Option.none⟩ := fun o => hn.cell (p := ⟨w.heap.size, o, Option.none⟩) (by simp)
    have c0 : w'.cell? ⟨w.heap.size, 0, Option.none⟩ = some (.int .i64 a) := by rw [hcell]; go_simp
    have c1 : w'.cell? ⟨w.heap.size, 1, Option.none⟩ = some (.int .i64 b) := by rw [hcell]; go_simp
    have c2 : w'.cell? ⟨w.heap.size, 2, Option.none⟩ = some (.int .i64 c) := by rw [hcell]; go_simp
    have c3 : w'.cell? ⟨w.heap.size, 3, Option.none⟩ = some (.int .i64 d) := by rw [hcell]; go_simp
    have c4 : w'.cell? ⟨w.heap.size, 4, Option.none⟩ = some (.int .i64 x) := by rw [hcell]; go_simp
    have c5 : w'.cell? ⟨w.heap.size, 5, Option.none⟩ = some (.int .i64 y) := by rw [hcell]; go_simp
    clear hcell
    go_wp2_with fail
    go_quiet (fail)
    clear c0 c1 c2 c3 c4 c5
    replace hB := below_drewN hB nq
    clear hn
    go_wp2_with (go_at_call 9; (first | (with_reducible refine (cross_is _ _ _ _ _ _ _ H1.out).mono ?_) | (with_reducible refine (cross_is _ _ _ _ _ _ _ H2.out).mono ?_) | (with_reducible refine (cross_is _ _ _ _ _ _ _ H3.out).mono ?_)); rintro e w' ⟨rfl, hk⟩; replace hB := bstep hB hk; clear hk)
    go_ret
    exact ⟨rfl, hB⟩

theorem fracOrderW (a b c d x y : Int) (wa : (Lit.int .i64 a).wf = true) (_wb : (Lit.int .i64 b).wf = true) (_wc : (Lit.int .i64 c).wf = true) (_wd : (Lit.int .i64 d).wf = true) (_wx : (Lit.int .i64 x).wf = true) (_wy : (Lit.int .i64 y).wf = true) (w : World) :
    Calls Try.prog 4 #[.agg #[.int .i64 a, .int .i64 b, .int .i64 c, .int .i64 d, .int .i64 x, .int .i64 y]] w fun e w' => e = .returned (.bool true) ∧ Below w.heap.size w w' :=
  fracOrder a b c d x y (bd64 wa) w

end Go.Proofs.Ytgnniahohokbiaa.Frac
