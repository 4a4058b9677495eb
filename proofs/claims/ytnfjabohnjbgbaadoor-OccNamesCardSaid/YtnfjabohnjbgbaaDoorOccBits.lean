/- Bits of words: how many are set; the lowest. -/
import Derived.WalkKit
import Derived.Shelf.Spec.TrailingZeros
import Derived.Lib.BitFns
import Derived.Test.YtnfjabohnjbgbaaDoorProg
namespace Go.Proofs.YtnfjabohnjbgbaaDoor.Occ
open Go.RowKit Go.Shelf Go.Proofs.YtnfjabohnjbgbaaDoor

/-! ### Numbers by bytes -/
def val : List Nat → Nat
  | [] => 0
  | b :: l => b + 256 * val l
def rep (m : Nat) : Nat → Nat
  | 0 => 0
  | n + 1 => m + 256 * rep m n
theorem split_and (a b c d : Nat) (ha : a < 256) (hc : c < 256) : (a + 256 * b) &&& (c + 256 * d) = (a &&& c) + 256 * (b &&& d) := by
  have hac : a &&& c < 256 := Nat.and_lt_two_pow (n := 8) _ hc
  have h1 : ((a + 256 * b) &&& (c + 256 * d)) % 2 ^ 8 = a &&& c := by
    rw [Nat.and_mod_two_pow]
    congr 1 <;> omega
  have h2 : ((a + 256 * b) &&& (c + 256 * d)) / 2 ^ 8 = b &&& d := by
    rw [Nat.and_div_two_pow]
    congr 1 <;> omega
  have h3 := Nat.div_add_mod ((a + 256 * b) &&& (c + 256 * d)) (2 ^ 8)
  omega
def B1 (b : Nat) : Nat := (b / 2 &&& 85) + (b &&& 85)
def B2 (b : Nat) : Nat := (b / 4 &&& 51) + (b &&& 51)
def B3 (b : Nat) : Nat := (b / 16 + b) &&& 15
theorem b1_fact : ∀ b, b < 256 → ∀ e, e < 2 → (b / 2 + 128 * e) &&& 85 = b / 2 &&& 85 := by decide +kernel
theorem b2_fact : ∀ b, b < 256 → ∀ e, e < 4 → (b / 4 + 64 * e) &&& 51 = b / 4 &&& 51 := by decide +kernel
theorem b3_fact : ∀ b, b < 256 → ∀ e, e < 5 → (b / 16 + 16 * e + b) &&& 15 = (b / 16 + b) &&& 15 := by decide +kernel
theorem b1_lt : ∀ b, b < 256 → B1 b < 256 := by decide +kernel
theorem b2_lt : ∀ b, b < 256 → B2 (B1 b) < 256 ∧ B2 (B1 b) % 16 ≤ 4 ∧ B2 (B1 b) / 16 ≤ 4 := by decide +kernel
theorem b3_is : ∀ b, b < 256 → B3 (B2 (B1 b)) = Lib.popAux 8 b ∧ Lib.popAux 8 b ≤ 8 := by decide +kernel
theorem s1 (l : List Nat) (h : ∀ b ∈ l, b < 256) : (val l / 2 &&& rep 85 l.length) + (val l &&& rep 85 l.length) = val (l.map B1) := by
  induction l with
  | nil => rfl
  | cons b l ih =>
    have hb := h b (by simp)
    have ih := ih (fun c hc => h c (by simp [hc]))
    have e : val (b :: l) / 2 = (b / 2 + 128 * (val l % 2)) + 256 * (val l / 2) := by show (b + 256 * val l) / 2 = _; omega
    rw [e, show rep 85 (b :: l).length = 85 + 256 * rep 85 l.length from rfl, show val (b :: l) = b + 256 * val l from rfl, split_and _ _ _ _ (by omega) (by omega), split_and _ _ _ _ hb (by omega), b1_fact b hb _ (Nat.mod_lt _ (by decide))]
    show _ = B1 b + 256 * val (l.map B1)
    rw [← ih]; unfold B1; omega
theorem s2 (l : List Nat) (h : ∀ b ∈ l, b < 256) : (val l / 4 &&& rep 51 l.length) + (val l &&& rep 51 l.length) = val (l.map B2) := by
  induction l with
  | nil => rfl
  | cons b l ih =>
    have hb := h b (by simp)
    have ih := ih (fun c hc => h c (by simp [hc]))
    have e : val (b :: l) / 4 = (b / 4 + 64 * (val l % 4)) + 256 * (val l / 4) := by show (b + 256 * val l) / 4 = _; omega
    rw [e, show rep 51 (b :: l).length = 51 + 256 * rep 51 l.length from rfl, show val (b :: l) = b + 256 * val l from rfl, split_and _ _ _ _ (by omega) (by omega), split_and _ _ _ _ hb (by omega), b2_fact b hb _ (Nat.mod_lt _ (by decide))]
    show _ = B2 b + 256 * val (l.map B2)
    rw [← ih]; unfold B2; omega
theorem val_mod (l : List Nat) (h : ∀ b ∈ l, b < 256 ∧ b % 16 ≤ 4 ∧ b / 16 ≤ 4) : val l % 16 ≤ 4 := by
  cases l with
  | nil => decide
  | cons b l => have := h b (by simp); show (b + 256 * val l) % 16 ≤ 4; omega
theorem s3 (l : List Nat) (h : ∀ b ∈ l, b < 256 ∧ b % 16 ≤ 4 ∧ b / 16 ≤ 4) : ((val l / 16 + val l) &&& rep 15 l.length) = val (l.map B3) := by
  induction l with
  | nil => rfl
  | cons b l ih =>
    have hb := h b (by simp)
    have hl : ∀ c ∈ l, c < 256 ∧ c % 16 ≤ 4 ∧ c / 16 ≤ 4 := fun c hc => h c (by simp [hc])
    have ih := ih hl
    have hm := val_mod l hl
    have e : val (b :: l) / 16 + val (b :: l) = (b / 16 + 16 * (val l % 16) + b) + 256 * (val l / 16 + val l) := by show (b + 256 * val l) / 16 + (b + 256 * val l) = _; omega
    rw [e, show rep 15 (b :: l).length = 15 + 256 * rep 15 l.length from rfl, split_and _ _ _ _ (by omega) (by omega), b3_fact b hb.1 _ (by omega), ih]
    rfl
/-! ### How many bits are set -/
theorem pop_split (k f : Nat) : ∀ b y, b < 2 ^ k → Lib.popAux (k + f) (b + 2 ^ k * y) = Lib.popAux k b + Lib.popAux f y := by
  induction k with
  | zero => intro b y hb; have : b = 0 := by omega
            subst this; simp [Lib.popAux]
  | succ k ih =>
    intro b y hb
    have e0 : 2 ^ (k + 1) * y = 2 * (2 ^ k * y) := by rw [Nat.pow_succ, Nat.mul_comm (2 ^ k) 2, Nat.mul_assoc]
    have e : (b + 2 ^ (k + 1) * y) / 2 = b / 2 + 2 ^ k * y := by rw [e0]; omega
    have e2 : (b + 2 ^ (k + 1) * y) % 2 = b % 2 := by rw [e0]; omega
    rw [show k + 1 + f = (k + f) + 1 by omega]
    show (b + 2 ^ (k + 1) * y) % 2 + Lib.popAux (k + f) ((b + 2 ^ (k + 1) * y) / 2) = b % 2 + Lib.popAux k (b / 2) + Lib.popAux f y
    rw [e, e2, ih (b / 2) y (by rw [Nat.pow_succ] at hb; omega), Nat.add_assoc]
def bytes8 (x : Nat) : List Nat := [x % 256, x / 256 % 256, x / 65536 % 256, x / 16777216 % 256, x / 4294967296 % 256, x / 1099511627776 % 256, x / 281474976710656 % 256, x / 72057594037927936 % 256]
theorem bytes8_val (x : Nat) (h : x < 18446744073709551616) : val (bytes8 x) = x := by
  unfold bytes8 val val val val val val val val val; omega
theorem bytes8_lt (x : Nat) : ∀ b ∈ bytes8 x, b < 256 := by
  intro b hb
  unfold bytes8 at hb
  simp only [List.mem_cons, List.not_mem_nil, or_false] at hb
  omega
def sumL : List Nat → Nat
  | [] => 0
  | b :: l => b + sumL l
theorem pop_val (l : List Nat) (h : ∀ b ∈ l, b < 256) : Lib.popAux (8 * l.length) (val l) = sumL (l.map (Lib.popAux 8)) := by
  induction l with
  | nil => rfl
  | cons b l ih =>
    have := pop_split 8 (8 * l.length) b (val l) (h b (by simp))
    rw [show 8 * (b :: l).length = 8 + 8 * l.length by simp; omega, show val (b :: l) = b + 2 ^ 8 * val l from rfl, this, ih (fun c hc => h c (by simp [hc]))]
    rfl

end Go.Proofs.YtnfjabohnjbgbaaDoor.Occ
