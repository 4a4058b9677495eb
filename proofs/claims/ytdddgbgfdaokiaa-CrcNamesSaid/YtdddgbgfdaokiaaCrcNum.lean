/- Bytes as one number, the first the lowest: bursts, and sealed bytes. -/
import Derived.Test.YtdddgbgfdaokiaaCrcPlain
namespace Go.Proofs.Ytdddgbgfdaokiaa.Crc

def num : List Int → Nat
  | [] => 0
  | z :: zs => z.toNat + 256 * num zs
def digits : Nat → Nat → List Int
  | 0, _ => []
  | k + 1, n => ((n % 256 : Nat) : Int) :: digits k (n / 256)

theorem digits_length (k n : Nat) : (digits k n).length = k := by
  induction k generalizing n with
  | zero => rfl
  | succ k ih => simp [digits, ih]
theorem digits_range (k n : Nat) : ∀ z ∈ digits k n, 0 ≤ z ∧ z < 256 := by
  induction k generalizing n with
  | zero => intro z hz; simp [digits] at hz
  | succ k ih =>
    intro z hz
    simp only [digits, List.mem_cons] at hz
    rcases hz with rfl | hz
    · omega
    · exact ih _ z hz
theorem num_digits (zs : List Int) (h : ∀ z ∈ zs, 0 ≤ z ∧ z < 256) : digits zs.length (num zs) = zs := by
  induction zs with
  | nil => rfl
  | cons z zs ih =>
    have hz := h z (by simp)
    simp only [List.length_cons, digits, num]
    rw [show (z.toNat + 256 * num zs) / 256 = num zs by omega, ih (fun y hy => h y (by simp [hy]))]
    congr 1
    omega
theorem num_lt (zs : List Int) (h : ∀ z ∈ zs, 0 ≤ z ∧ z < 256) : num zs < 2 ^ (8 * zs.length) := by
  induction zs with
  | nil => simp [num]
  | cons z zs ih =>
    have hz := h z (by simp)
    have hi := ih (fun y hy => h y (by simp [hy]))
    simp only [List.length_cons, num, Nat.mul_add, Nat.pow_add]
    omega
theorem digits_num (k n : Nat) (h : n < 2 ^ (8 * k)) : num (digits k n) = n := by
  induction k generalizing n with
  | zero => simp at h; subst h; rfl
  | succ k ih =>
    have h2 : n / 256 < 2 ^ (8 * k) := by
      rw [Nat.mul_add, Nat.pow_add] at h
      omega
    simp only [digits, num, ih _ h2, Int.toNat_natCast]
    omega

theorem xor_256 (z c r q : Nat) (hz : z < 256) (hc : c < 256) : (z + 256 * r) ^^^ (c + 256 * q) = (z ^^^ c) + 256 * (r ^^^ q) := by
  have hm : ((z + 256 * r) ^^^ (c + 256 * q)) % 2 ^ 8 = ((z + 256 * r) % 2 ^ 8) ^^^ ((c + 256 * q) % 2 ^ 8) := Nat.xor_mod_two_pow
  have hd : ((z + 256 * r) ^^^ (c + 256 * q)) / 2 ^ 8 = ((z + 256 * r) / 2 ^ 8) ^^^ ((c + 256 * q) / 2 ^ 8) := Nat.xor_div_two_pow
  rw [show (z + 256 * r) % 2 ^ 8 = z by omega, show (c + 256 * q) % 2 ^ 8 = c by omega] at hm
  rw [show (z + 256 * r) / 2 ^ 8 = r by omega, show (c + 256 * q) / 2 ^ 8 = q by omega] at hd
  omega

/-- A bit turned over. -/
def flip (zs : List Int) (p : Nat) : List Int := zs.set (p / 8) ((((zs.getD (p / 8) 0).toNat ^^^ 2 ^ (p % 8) : Nat) : Int))
theorem flip_length (zs : List Int) (p : Nat) : (flip zs p).length = zs.length := by simp [flip]
theorem pow8 (b : Nat) (h : b < 8) : 2 ^ b < 256 := Nat.lt_of_lt_of_le (Nat.pow_lt_pow_right (by decide) h) (by decide)
theorem xor_lt8 {a b : Nat} (ha : a < 256) (hb : b < 256) : a ^^^ b < 256 := Nat.xor_lt_two_pow (n := 8) ha hb
theorem num_set (zs : List Int) (i b : Nat) (h : ∀ z ∈ zs, 0 ≤ z ∧ z < 256) (hi : i < zs.length) (hb : b < 8) :
    num (zs.set i ((((zs.getD i 0).toNat ^^^ 2 ^ b : Nat) : Int))) = num zs ^^^ 2 ^ (8 * i + b) := by
  induction zs generalizing i with
  | nil => simp at hi
  | cons z zs ih =>
    have hz := h z (by simp)
    have hp := pow8 b hb
    cases i with
    | zero =>
      simp only [List.set_cons_zero, num, List.getD_cons_zero, Int.toNat_natCast, Nat.mul_zero, Nat.zero_add]
      have := xor_256 z.toNat (2 ^ b) (num zs) 0 (by omega) hp
      simp only [Nat.mul_zero, Nat.add_zero, Nat.xor_zero] at this
      rw [this]
    | succ i =>
      simp only [List.set_cons_succ, num, List.getD_cons_succ]
      rw [ih i (fun y hy => h y (by simp [hy])) (by simpa using hi)]
      have := xor_256 z.toNat 0 (num zs) (2 ^ (8 * i + b)) (by omega) (by decide)
      rw [Nat.xor_zero] at this
      rw [← this]
      congr 1
      have e : 2 ^ (8 * (i + 1) + b) = 256 * 2 ^ (8 * i + b) := by rw [show 8 * (i + 1) + b = 8 + (8 * i + b) by omega, Nat.pow_add]
      rw [e, Nat.zero_add]
theorem num_flip (zs : List Int) (p : Nat) (h : ∀ z ∈ zs, 0 ≤ z ∧ z < 256) (hp : p < 8 * zs.length) : num (flip zs p) = num zs ^^^ 2 ^ p := by
  unfold flip
  rw [num_set zs (p / 8) (p % 8) h (by omega) (by omega)]
  congr 2
  omega
theorem flip_range (zs : List Int) (p : Nat) (h : ∀ z ∈ zs, 0 ≤ z ∧ z < 256) : ∀ z ∈ flip zs p, 0 ≤ z ∧ z < 256 := by
  intro z hz
  unfold flip at hz
  rcases List.mem_or_eq_of_mem_set hz with hz | rfl
  · exact h z hz
  · have h1 : (zs.getD (p / 8) 0).toNat < 256 := by
      rw [List.getD_eq_getElem?_getD]
      cases hq : zs[p / 8]? with
      | none => simp
      | some y => have := h y (List.mem_of_getElem? hq); simp; omega
    have := xor_lt8 h1 (pow8 (p % 8) (by omega))
    omega

/-! ### A mask from a bit on -/
theorem odd_mask (m p : Nat) (h : m % 2 = 1) : m * 2 ^ p = 2 ^ p ^^^ (m / 2 * 2 ^ (p + 1)) := by
  have e : m = 1 ^^^ (2 * (m / 2)) := by
    have h1 := xor_mod2 1 (2 * (m / 2))
    have h2 := xor_div2 1 (2 * (m / 2))
    rw [show 1 % 2 = 1 from rfl, show 2 * (m / 2) % 2 = 0 by omega, if_neg (by decide)] at h1
    rw [show 1 / 2 = 0 from rfl, Nat.zero_xor, show 2 * (m / 2) / 2 = m / 2 by omega] at h2
    omega
  have d : (1 ^^^ (2 * (m / 2))) <<< p = 1 <<< p ^^^ (2 * (m / 2)) <<< p := Nat.shiftLeft_xor_distrib
  rw [← e, Nat.shiftLeft_eq, Nat.shiftLeft_eq, Nat.shiftLeft_eq, Nat.one_mul] at d
  rw [d, Nat.pow_succ]
  congr 1
  rw [Nat.mul_comm 2, Nat.mul_assoc, Nat.mul_comm 2]
theorem even_mask (m p : Nat) (h : ¬ m % 2 = 1) : m * 2 ^ p = m / 2 * 2 ^ (p + 1) := by
  rw [Nat.pow_succ, Nat.mul_comm (2 ^ p), ← Nat.mul_assoc]
  congr 1
  omega
theorem half_mask (m p : Nat) : m / 2 * 2 ^ (p + 1) ≤ m * 2 ^ p := by
  rw [Nat.pow_succ, Nat.mul_comm (2 ^ p), ← Nat.mul_assoc]
  exact Nat.mul_le_mul_right _ (by omega)

def Fits (n : Nat) (at_ : Nat) (m : Nat) : Prop := m * 2 ^ at_ < 2 ^ (8 * n)
theorem Fits.lt {n p m : Nat} (h : Fits n p m) (hm : m ≠ 0) : p < 8 * n := by
  unfold Fits at h
  have h2 : 2 ^ p ≤ m * 2 ^ p := Nat.le_mul_of_pos_left _ (by omega)
  exact (Nat.pow_lt_pow_iff_right (by decide)).1 (Nat.lt_of_le_of_lt h2 h)
theorem Fits.half {n p m : Nat} (h : Fits n p m) : Fits n (p + 1) (m / 2) := Nat.lt_of_le_of_lt (half_mask m p) h

instance (n p m : Nat) : Decidable (Fits n p m) := by unfold Fits; infer_instance
/-- What a burst makes. -/
def burstV (t : List Int) (at_ : Int) (m : Nat) : List Int × Int :=
  if 1048576 < t.length then ([], 4) else if at_ < 0 ∨ ¬ Fits t.length at_.toNat m then ([], 2) else (digits t.length (num t ^^^ m * 2 ^ at_.toNat), 0)

theorem burstV_hi {t : List Int} {p : Int} {m : Nat} (h : 1048576 < t.length) : burstV t p m = ([], 4) := by unfold burstV; rw [if_pos h]
theorem burstV_neg {t : List Int} {p : Int} {m : Nat} (h : ¬ 1048576 < t.length) (hp : p < 0) : burstV t p m = ([], 2) := by unfold burstV; rw [if_neg h, if_pos (.inl hp)]
theorem burstV_out {t : List Int} {p : Nat} {m : Nat} (h : ¬ 1048576 < t.length) (hp : ¬ Fits t.length p m) : burstV t (p : Int) m = ([], 2) := by unfold burstV; rw [if_neg h, if_pos (.inr hp)]
theorem burstV_ok {t cs : List Int} {p : Nat} {m : Nat} (h : ¬ 1048576 < t.length) (hp : Fits t.length p m) (hc : cs.length = t.length) (hr : ∀ z ∈ cs, 0 ≤ z ∧ z < 256) (hn : num cs = num t ^^^ m * 2 ^ p) : burstV t (p : Int) m = (cs, 0) := by
  unfold burstV
  rw [if_neg h, if_neg (by simp [hp]), Int.toNat_natCast, ← hn, ← hc, num_digits cs hr]

/-- By a number's length. -/
theorem fits_len {n p m l : Nat} (hm : m ≠ 0) (h1 : m < 2 ^ l) (h2 : 2 ^ l ≤ 2 * m) : Fits n p m ↔ p + l ≤ 8 * n := by
  unfold Fits
  constructor
  · intro h
    rcases Nat.lt_or_ge (8 * n) (p + l) with hlt | hge
    · exfalso
      have h3 : 2 ^ (8 * n) * 2 ≤ 2 ^ (p + l) := by
        rw [← Nat.pow_succ]
        exact Nat.pow_le_pow_right (by decide) hlt
      have h4 : 2 ^ (p + l) ≤ 2 * (m * 2 ^ p) := by
        rw [Nat.pow_add, Nat.mul_comm (2 ^ p), ← Nat.mul_assoc]
        exact Nat.mul_le_mul_right _ h2
      omega
    · exact hge
  · intro h
    have h3 : m * 2 ^ p < 2 ^ l * 2 ^ p := Nat.mul_lt_mul_of_pos_right h1 (Nat.pow_pos (by decide))
    rw [← Nat.pow_add] at h3
    exact Nat.lt_of_lt_of_le h3 (Nat.pow_le_pow_right (by decide) (by omega))

end Go.Proofs.Ytdddgbgfdaokiaa.Crc
