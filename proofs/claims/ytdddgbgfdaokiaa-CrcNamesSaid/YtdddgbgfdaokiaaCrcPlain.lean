/- What the functions of package crc compute, as plain functions on numbers: no program in sight. -/
namespace Go.Proofs.Ytdddgbgfdaokiaa.Crc

/-- One bit further. -/
def turn (s : Nat) : Nat := if s % 2 = 1 then s / 2 ^^^ 3988292384 else s / 2
def turns : Nat → Nat → Nat
  | 0, s => s
  | k + 1, s => turns k (turn s)
/-- One byte further. -/
def byte (s c : Nat) : Nat := turns 8 (s ^^^ c)
/-- A sum under way behind bytes. -/
def behind (s : Nat) (zs : List Int) : Nat := zs.foldl (fun s z => byte s z.toNat) s

theorem turns_succ (k s : Nat) : turns (k + 1) s = turn (turns k s) := by
  induction k generalizing s with
  | zero => rfl
  | succ k ih => rw [turns, ih (turn s)]; rfl

theorem xor_lt32 {a b : Nat} (ha : a < 4294967296) (hb : b < 4294967296) : a ^^^ b < 4294967296 := Nat.xor_lt_two_pow (n := 32) ha hb

theorem turn_lt {s : Nat} (h : s < 4294967296) : turn s < 4294967296 := by
  unfold turn
  split
  · exact xor_lt32 (by omega) (by decide)
  · omega
theorem turns_lt {k s : Nat} (h : s < 4294967296) : turns k s < 4294967296 := by
  induction k generalizing s with
  | zero => exact h
  | succ k ih => exact ih (turn_lt h)
theorem byte_lt {s c : Nat} (h : s < 4294967296) (hc : c < 256) : byte s c < 4294967296 := turns_lt (xor_lt32 h (by omega))

theorem behind_snoc (s : Nat) (zs : List Int) (z : Int) : behind s (zs ++ [z]) = byte (behind s zs) z.toNat := by
  unfold behind; rw [List.foldl_append]; rfl
theorem behind_append (s : Nat) (xs ys : List Int) : behind s (xs ++ ys) = behind (behind s xs) ys := by
  unfold behind; rw [List.foldl_append]

theorem behind_lt {s : Nat} (h : s < 4294967296) {zs : List Int} (hz : ∀ z ∈ zs, 0 ≤ z ∧ z < 256) : behind s zs < 4294967296 := by
  induction zs generalizing s with
  | nil => exact h
  | cons z zs ih =>
    show behind (byte s z.toNat) zs < _
    exact ih (byte_lt h (by have := hz z (by simp); omega)) (fun y hy => hz y (by simp [hy]))

theorem take_snoc (zs : List Int) (k : Nat) (h : k < zs.length) : zs.take (k + 1) = zs.take k ++ [zs.getD k 0] := by
  rw [List.take_succ_eq_append_getElem h]; simp [List.getD_eq_getElem?_getD, h]

/-! ### The document's way: a bit of the text against the lowest of the sum -/
def step (s b : Nat) : Nat := if s % 2 ≠ b then s / 2 ^^^ 3988292384 else s / 2
def steps : Nat → Nat → Nat → Nat
  | 0, s, _ => s
  | k + 1, s, c => steps k (step s (c % 2)) (c / 2)

theorem xor_mod2 (a b : Nat) : (a ^^^ b) % 2 = if a % 2 = b % 2 then 0 else 1 := by
  have h : (a ^^^ b) % 2 ^ 1 = (a % 2 ^ 1) ^^^ (b % 2 ^ 1) := Nat.xor_mod_two_pow
  simp only [Nat.pow_one] at h
  rw [h]
  have ha : a % 2 = 0 ∨ a % 2 = 1 := by omega
  have hb : b % 2 = 0 ∨ b % 2 = 1 := by omega
  rcases ha with ha | ha <;> rcases hb with hb | hb <;> rw [ha, hb] <;> rfl
theorem xor_div2 (a b : Nat) : (a ^^^ b) / 2 = (a / 2) ^^^ (b / 2) := by
  have h : (a ^^^ b) / 2 ^ 1 = (a / 2 ^ 1) ^^^ (b / 2 ^ 1) := Nat.xor_div_two_pow
  simpa using h

theorem turn_xor (s c : Nat) : turn (s ^^^ c) = step s (c % 2) ^^^ (c / 2) := by
  unfold turn step
  rw [xor_mod2, xor_div2]
  by_cases h : s % 2 = c % 2
  · simp [h]
  · simp [h, Nat.xor_assoc, Nat.xor_comm (c / 2)]

theorem turns_steps (k s c : Nat) : turns k (s ^^^ c) = steps k s c ^^^ (c / 2 ^ k) := by
  induction k generalizing s c with
  | zero => simp [turns, steps]
  | succ k ih =>
    rw [turns, steps, turn_xor, ih]
    congr 1
    rw [Nat.div_div_eq_div_mul, Nat.pow_succ, Nat.mul_comm]

theorem byte_steps (s c : Nat) (hc : c < 256) : byte s c = steps 8 s c := by
  unfold byte
  rw [turns_steps, show c / 2 ^ 8 = 0 by omega, Nat.xor_zero]

theorem steps_succ (k s c : Nat) : steps (k + 1) s c = step (steps k s c) (c / 2 ^ k % 2) := by
  induction k generalizing s c with
  | zero => simp [steps]
  | succ k ih =>
    rw [steps, ih, steps]
    congr 2
    rw [Nat.div_div_eq_div_mul, Nat.pow_succ, Nat.mul_comm]

theorem step_lt {s b : Nat} (h : s < 4294967296) : step s b < 4294967296 := by
  unfold step
  split
  · exact xor_lt32 (by omega) (by decide)
  · omega
theorem steps_lt {k s c : Nat} (h : s < 4294967296) : steps k s c < 4294967296 := by
  induction k generalizing s c with
  | zero => exact h
  | succ k ih => exact ih (step_lt h)

/-! ### What is sealed, and opened -/
def sumV (zs : List Int) : Nat := 4294967295 - behind 4294967295 zs
def le4 (n : Nat) : List Int := [((n % 256 : Nat) : Int), ((n / 256 % 256 : Nat) : Int), ((n / 65536 % 256 : Nat) : Int), ((n / 16777216 % 256 : Nat) : Int)]
def sealed (zs : List Int) : List Int := zs ++ le4 (sumV zs)
def goV (s : Nat) (zs : List Int) : Nat × Int := if 1048576 < zs.length then (0, 4) else (behind s zs, 0)
def ofV (zs : List Int) : Nat × Int := if 1048576 < zs.length then (0, 4) else (sumV zs, 0)
def sealV (zs : List Int) : List Int × Int := if 1048576 < zs.length then ([], 4) else (sealed zs, 0)
def openV (t : List Int) : List Int × Int :=
  if 1048576 < t.length then ([], 4) else if t.length < 4 ∨ sealed (t.take (t.length - 4)) ≠ t then ([], 8) else (t.take (t.length - 4), 0)

theorem sumV_lt (zs : List Int) : sumV zs < 4294967296 := by unfold sumV; omega
theorem le4_length (n : Nat) : (le4 n).length = 4 := rfl
theorem sealed_length (zs : List Int) : (sealed zs).length = zs.length + 4 := by unfold sealed; simp [le4_length]

end Go.Proofs.Ytdddgbgfdaokiaa.Crc
