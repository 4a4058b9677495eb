/- Sums are linear, and no turn loses anything: why bursts are found. -/
import Derived.Test.YtdddgbgfdaokiaaCrcNum
namespace Go.Proofs.Ytdddgbgfdaokiaa.Crc

theorem xlc (a b c : Nat) : a ^^^ (b ^^^ c) = b ^^^ (a ^^^ c) := by rw [← Nat.xor_assoc, Nat.xor_comm a b, Nat.xor_assoc]
theorem xor_zero_eq {a b : Nat} (h : a ^^^ b = 0) : a = b := by
  have : a ^^^ b ^^^ b = b := by rw [h, Nat.zero_xor]
  rwa [Nat.xor_assoc, Nat.xor_self, Nat.xor_zero] at this
theorem turn_xor2 (s t : Nat) : turn (s ^^^ t) = turn s ^^^ turn t := by
  unfold turn
  rw [xor_mod2, xor_div2]
  have h1 : s % 2 = 0 ∨ s % 2 = 1 := by omega
  have h2 : t % 2 = 0 ∨ t % 2 = 1 := by omega
  rcases h1 with h1 | h1 <;> rcases h2 with h2 | h2
  · simp [h1, h2]
  · simp [h1, h2, Nat.xor_assoc]
  · simp [h1, h2, Nat.xor_assoc, Nat.xor_comm (t / 2)]
  · simp [h1, h2]
    rw [Nat.xor_assoc, xlc 3988292384, Nat.xor_self, Nat.xor_zero]
theorem turns_xor2 (k s t : Nat) : turns k (s ^^^ t) = turns k s ^^^ turns k t := by
  induction k generalizing s t with
  | zero => rfl
  | succ k ih => rw [turns, turns, turns, turn_xor2, ih]

/-- No turn loses anything. -/
theorem turn_zero_of {s : Nat} (h : s < 4294967296) (ht : turn s = 0) : s = 0 := by
  unfold turn at ht
  by_cases h1 : s % 2 = 1
  · rw [if_pos h1] at ht
    have e : s / 2 = 3988292384 := xor_zero_eq ht
    omega
  · rw [if_neg h1] at ht
    omega
theorem turns_zero_of {k s : Nat} (h : s < 4294967296) (ht : turns k s = 0) : s = 0 := by
  induction k generalizing s with
  | zero => exact ht
  | succ k ih => exact turn_zero_of h (ih (turn_lt h) ht)
theorem turns_zero (k : Nat) : turns k 0 = 0 := by
  induction k with
  | zero => rfl
  | succ k ih => rw [turns]; exact ih
theorem turns_inj {k s t : Nat} (hs : s < 4294967296) (ht : t < 4294967296) (h : turns k s = turns k t) : s = t := by
  have e : turns k (s ^^^ t) = 0 := by rw [turns_xor2, h, Nat.xor_self]
  exact xor_zero_eq (turns_zero_of (xor_lt32 hs ht) e)

/-- A sum under way behind a number's bits: turns, and what is left of the number. -/
theorem steps_turns (k s n : Nat) : steps k s n = turns k (s ^^^ n) ^^^ (n / 2 ^ k) := by
  rw [turns_steps, Nat.xor_assoc, Nat.xor_self, Nat.xor_zero]
theorem steps_add (j k s n : Nat) : steps (j + k) s n = steps k (steps j s n) (n / 2 ^ j) := by
  induction j generalizing s n with
  | zero => simp [steps]
  | succ j ih =>
    rw [show j + 1 + k = (j + k) + 1 by omega, steps, ih, steps]
    congr 1
    rw [Nat.div_div_eq_div_mul, Nat.pow_succ, Nat.mul_comm]
theorem steps_mod (k s n m : Nat) (h : n % 2 ^ k = m % 2 ^ k) : steps k s n = steps k s m := by
  induction k generalizing s n m with
  | zero => rfl
  | succ k ih =>
    have h2 : n % 2 = m % 2 := by
      have a := Nat.mod_mod_of_dvd n (show 2 ∣ 2 ^ (k + 1) from ⟨2 ^ k, by rw [Nat.pow_succ, Nat.mul_comm]⟩)
      have b := Nat.mod_mod_of_dvd m (show 2 ∣ 2 ^ (k + 1) from ⟨2 ^ k, by rw [Nat.pow_succ, Nat.mul_comm]⟩)
      rw [← a, ← b, h]
    rw [steps, steps, h2]
    apply ih
    have a : n / 2 % 2 ^ k = n % 2 ^ (k + 1) / 2 := by rw [Nat.pow_succ, Nat.mul_comm, Nat.mod_mul_right_div_self]
    have b : m / 2 % 2 ^ k = m % 2 ^ (k + 1) / 2 := by rw [Nat.pow_succ, Nat.mul_comm, Nat.mod_mul_right_div_self]
    rw [a, b, h]

/-- Behind bytes: behind the bits of their number. -/
theorem behind_num (s : Nat) (zs : List Int) (h : ∀ z ∈ zs, 0 ≤ z ∧ z < 256) : behind s zs = steps (8 * zs.length) s (num zs) := by
  induction zs generalizing s with
  | nil => rfl
  | cons z zs ih =>
    have hz := h z (by simp)
    show behind (byte s z.toNat) zs = _
    rw [ih _ (fun y hy => h y (by simp [hy])), List.length_cons, show 8 * (zs.length + 1) = 8 + 8 * zs.length by omega, steps_add, byte_steps s z.toNat (by omega)]
    congr 1
    · apply steps_mod
      simp only [num]
      omega
    · simp only [num]
      omega

theorem behind_turns (s : Nat) (zs : List Int) (h : ∀ z ∈ zs, 0 ≤ z ∧ z < 256) : behind s zs = turns (8 * zs.length) (s ^^^ num zs) := by
  rw [behind_num s zs h, steps_turns, Nat.div_eq_of_lt (num_lt zs h), Nat.xor_zero]

/-! ### Sealed bytes -/
theorem num_le4 (n : Nat) (h : n < 4294967296) : num (le4 n) = n := by
  simp only [le4, num, Int.toNat_natCast]
  omega
theorem le4_range (n : Nat) : ∀ z ∈ le4 n, 0 ≤ z ∧ z < 256 := by
  intro z hz
  unfold le4 at hz
  simp only [List.mem_cons, List.not_mem_nil, or_false] at hz
  omega
theorem compl32 (s : Nat) (h : s < 4294967296) : s ^^^ (4294967295 - s) = 4294967295 := by
  have e : (4294967295 : Nat) ^^^ s = 4294967295 - s := by
    have h1 : (~~~ BitVec.ofNat 32 s).toNat = 4294967295 - s := by
      rw [BitVec.toNat_not, BitVec.toNat_ofNat, Nat.mod_eq_of_lt (by simpa using h)]
    rw [← BitVec.allOnes_xor, BitVec.toNat_xor, BitVec.toNat_ofNat, Nat.mod_eq_of_lt (by simpa using h)] at h1
    exact h1
  rw [← e, Nat.xor_comm, Nat.xor_assoc, Nat.xor_self, Nat.xor_zero]

/-- The sum under way behind all of sealed bytes. -/
def rest32 : Nat := turns 32 4294967295
theorem behind4 (s n : Nat) (hn : n < 4294967296) : behind s (le4 n) = turns 32 (s ^^^ n) := by
  rw [behind_turns s _ (le4_range n), num_le4 n hn]
  rfl
theorem sealed_behind (zs : List Int) (h : ∀ z ∈ zs, 0 ≤ z ∧ z < 256) : behind 4294967295 (sealed zs) = rest32 := by
  have hb := behind_lt (s := 4294967295) (by decide) h
  unfold sealed
  rw [behind_append, behind4 _ _ (sumV_lt zs), show sumV zs = 4294967295 - behind 4294967295 zs from rfl, compl32 _ hb]
  rfl
/-- Bytes whose last four are some number's. -/
theorem split4 (t : List Int) (h : ∀ z ∈ t, 0 ≤ z ∧ z < 256) (h4 : 4 ≤ t.length) : ∃ n, n < 4294967296 ∧ t = t.take (t.length - 4) ++ le4 n := by
  have hd : (t.drop (t.length - 4)).length = 4 := by rw [List.length_drop]; omega
  have hr : ∀ z ∈ t.drop (t.length - 4), 0 ≤ z ∧ z < 256 := fun z hz => h z (List.mem_of_mem_drop hz)
  have hl := num_lt _ hr
  rw [hd] at hl
  refine ⟨num (t.drop (t.length - 4)), by simpa using hl, ?_⟩
  have e : le4 (num (t.drop (t.length - 4))) = t.drop (t.length - 4) := by
    have h1 := num_digits _ hr
    rw [hd] at h1
    rw [← h1]
    generalize num (t.drop (t.length - 4)) = n at *
    rw [digits_num 4 n (by simpa using hl)]
    simp only [le4, digits, Nat.div_div_eq_div_mul]
  rw [e, List.take_append_drop]
theorem sealed_of_behind (t : List Int) (h : ∀ z ∈ t, 0 ≤ z ∧ z < 256) (h4 : 4 ≤ t.length) (hb : behind 4294967295 t = rest32) : sealed (t.take (t.length - 4)) = t := by
  obtain ⟨n, hn, e⟩ := split4 t h h4
  have hr : ∀ z ∈ t.take (t.length - 4), 0 ≤ z ∧ z < 256 := fun z hz => h z (List.mem_of_mem_take hz)
  generalize t.take (t.length - 4) = b at *
  subst e
  rw [behind_append, behind4 _ _ hn] at hb
  have hl := behind_lt (s := 4294967295) (by decide) hr
  have e2 := turns_inj (xor_lt32 hl hn) (by decide) hb
  have e3 : n = sumV b := by
    show n = 4294967295 - behind 4294967295 b
    generalize behind 4294967295 b = s at *
    have c := compl32 s hl
    have : s ^^^ (s ^^^ n) = s ^^^ (s ^^^ (4294967295 - s)) := by rw [e2, c]
    rwa [← Nat.xor_assoc, ← Nat.xor_assoc, Nat.xor_self, Nat.zero_xor, Nat.zero_xor] at this
  rw [e3]; rfl

/-- Behind a burst that turns a bit sealed bytes are none. -/
theorem burst_found (zs ys : List Int) (p m : Nat) (hz : ∀ z ∈ zs, 0 ≤ z ∧ z < 256) (hy : ∀ z ∈ ys, 0 ≤ z ∧ z < 256) (hl : ys.length = zs.length) (hn : num ys = num zs ^^^ m * 2 ^ p)
    (hf : Fits zs.length p m) (hm : m ≠ 0) (hm32 : m < 4294967296) : behind 4294967295 zs ≠ behind 4294967295 ys := by
  intro e
  rw [behind_turns _ _ hz, behind_turns _ _ hy, hl, hn, ← Nat.xor_assoc] at e
  rw [turns_xor2 _ (4294967295 ^^^ num zs)] at e
  have e2 : turns (8 * zs.length) (m * 2 ^ p) = 0 := by
    have := congrArg (turns (8 * zs.length) (4294967295 ^^^ num zs) ^^^ ·) e
    simp only [← Nat.xor_assoc, Nat.xor_self, Nat.zero_xor] at this
    exact this.symm
  have hp := hf.lt hm
  have e3 : turns (8 * zs.length) (m * 2 ^ p) = turns (8 * zs.length - p) m := by
    have a := steps_turns (8 * zs.length) 0 (m * 2 ^ p)
    rw [Nat.zero_xor, Nat.div_eq_of_lt hf, Nat.xor_zero] at a
    obtain ⟨r, hr⟩ : ∃ r, 8 * zs.length = p + r := ⟨8 * zs.length - p, by omega⟩
    have hmr : m < 2 ^ r := by
      have h := hf
      unfold Fits at h
      rw [hr, Nat.pow_add, Nat.mul_comm (2 ^ p)] at h
      exact Nat.lt_of_mul_lt_mul_right h
    have z : steps p 0 (m * 2 ^ p) = 0 := by
      rw [steps_mod p 0 (m * 2 ^ p) 0 (by rw [Nat.mul_mod_left, Nat.zero_mod]), steps_turns, Nat.xor_self, turns_zero, Nat.zero_div, Nat.xor_zero]
    rw [← a, hr, steps_add, z, Nat.mul_div_cancel _ (Nat.pow_pos (by decide)), steps_turns, Nat.zero_xor, Nat.div_eq_of_lt hmr, Nat.xor_zero, Nat.add_sub_cancel_left]
  rw [e3] at e2
  exact hm (turns_zero_of hm32 e2)

end Go.Proofs.Ytdddgbgfdaokiaa.Crc
