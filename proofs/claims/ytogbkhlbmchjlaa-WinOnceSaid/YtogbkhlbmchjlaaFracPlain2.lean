/- Plain facts on logarithms, powers and wrapped products: no program in sight. -/
import Derived.WalkKit
import Derived.Test.YtogbkhlbmchjlaaFracPlain
import Derived.Lib.BitFns
namespace Go.Proofs.Ytogbkhlbmchjlaa.Frac
open Go.RowKit

theorem log2_step {n : Nat} (h : 2 ≤ n) : n.log2 = (n / 2).log2 + 1 := by
  rw [Nat.log2_def n, if_pos h]
theorem log2_small {n : Nat} (h : n < 2) : n.log2 = 0 := by
  rw [Nat.log2_def n, if_neg (by omega)]

theorem bitLenAux_log (f x : Nat) (h : x < 2 ^ f) : Lib.bitLenAux f x = if x = 0 then 0 else x.log2 + 1 := by
  induction f generalizing x with
  | zero => have : x = 0 := by simpa using h
            subst this; rfl
  | succ f ih =>
    unfold Lib.bitLenAux
    by_cases hx : x = 0
    · rw [if_pos hx, if_pos hx]
    · rw [if_neg hx, if_neg hx, ih (x / 2) (by rw [Nat.pow_succ] at h; omega)]
      by_cases h2 : x < 2
      · rw [if_pos (by omega), log2_small h2]
      · rw [if_neg (by omega), log2_step (n := x) (by omega)]; omega

theorem bitLen_log (x : Nat) (h : x < 18446744073709551616) : Lib.bitLen x = if x = 0 then 0 else x.log2 + 1 := bitLenAux_log 64 x h

theorem bitLen_clog (n : Int) (h : 1 ≤ n) (h2 : n ≤ 9223372036854775807) : ((Lib.bitLen (n.toNat - 1) : Nat) : Int) = ((clog n.toNat : Nat) : Int) := by
  rw [bitLen_log _ (by omega)]
  unfold clog
  by_cases c : n = 1
  · subst c; rfl
  · rw [if_neg (by omega), if_neg (by omega)]

theorem log2_lt63 (n : Int) (h2 : n ≤ 9223372036854775807) : n.toNat.log2 < 63 := by
  by_cases h : n.toNat = 0
  · rw [h]; decide
  · exact (Nat.log2_lt h).2 (by omega)

theorem pow_lt63 {k : Nat} (h : k < 63) : 2 ^ k ≤ 4611686018427387904 := Nat.le_trans (Nat.pow_le_pow_right (by decide) (show k ≤ 62 by omega)) (by decide)

theorem powB_and (a : Int) (h0 : 0 < a) (h1 : a ≤ 9223372036854775807) : (bits .and .i64 a (a - 1) == 0) = powB a := by
  obtain ⟨n, rfl⟩ := Int.eq_ofNat_of_zero_le (Int.le_of_lt h0)
  have e := (bits_nat .i64 63 (by decide) (fun m m0 m1 => by rw [IntKind.wrap_i64]; omega) n (n - 1) (by omega) (by omega)).1
  have ec : ((n : Nat) : Int) - 1 = ((n - 1 : Nat) : Int) := by omega
  rw [ec, e]
  have hne : n ≠ 0 := by omega
  have key := Nat.and_sub_one_eq_zero_iff_isPowerOfTwo hne
  unfold powB
  rw [Int.toNat_natCast]
  have hd : decide (0 < (n : Int)) = true := by simpa using h0
  rw [hd, Bool.true_and]
  rw [Bool.eq_iff_iff]
  simp only [beq_iff_eq, decide_eq_true_eq]
  constructor
  · intro h
    have h' : n &&& n - 1 = 0 := by omega
    obtain ⟨k, hk⟩ := key.1 h'
    rw [hk, Nat.log2_two_pow]
  · intro h
    have h' : n = 2 ^ n.log2 := by omega
    have := key.2 ⟨n.log2, h'⟩
    omega

/-- A product that wrapped is told by dividing it again. -/
theorem wrap_mul_quo (a b : Int) (hb0 : b ≠ 0) (ba : -9223372036854775808 ≤ a ∧ a ≤ 9223372036854775807) (bb : -9223372036854775808 ≤ b ∧ b ≤ 9223372036854775807) (hf : ¬ (-9223372036854775808 ≤ a * b ∧ a * b ≤ 9223372036854775807)) (hx : ¬ (b = -1)) : (wrap64 ((wrap64 (a * b)).tdiv b) != a) = true := by
  rw [bne_iff_ne]
  intro he
  have hp : -9223372036854775808 ≤ wrap64 (a * b) ∧ wrap64 (a * b) ≤ 9223372036854775807 := by unfold wrap64; omega
  have hm : ∃ m : Int, wrap64 (a * b) = a * b - m * 18446744073709551616 := ⟨(a * b + 9223372036854775808) / 18446744073709551616, by unfold wrap64; omega⟩
  obtain ⟨m, hm⟩ := hm
  have hm0 : m ≠ 0 := fun c => by subst c; simp at hm; omega
  generalize wrap64 (a * b) = p at *
  -- the quotient fits, so it is not wrapped
  have hq : (p.tdiv b).natAbs ≤ p.natAbs / b.natAbs := by rw [Int.natAbs_tdiv]; exact Nat.le_refl _
  have hb1 : 1 ≤ b.natAbs := by omega
  have hfit : -9223372036854775808 ≤ p.tdiv b ∧ p.tdiv b ≤ 9223372036854775807 := by
    by_cases c : b.natAbs = 1
    · have : b = 1 := by omega
      subst this; simp; omega
    · have h2 : p.natAbs / b.natAbs ≤ p.natAbs / 2 := Nat.div_le_div_left (by omega) (by omega)
      omega
  have hw : wrap64 (p.tdiv b) = p.tdiv b := IntWalk.wrap64_in _ hfit
  rw [hw] at he
  have hd := Int.mul_tdiv_add_tmod p b
  have hr : (p.tmod b).natAbs < b.natAbs := by rw [Int.natAbs_tmod]; exact Nat.mod_lt _ (by omega)
  rw [he] at hd
  generalize p.tmod b = r at *
  rw [Int.mul_comm b a] at hd
  generalize a * b = ab at *
  omega

theorem logs_facts (n : Nat) (h : 1 ≤ n) : 2 ^ n.log2 ≤ n ∧ n / 2 < 2 ^ n.log2 ∧ ((n = 2 ^ n.log2 ∧ clog n = n.log2) ∨ (n ≠ 2 ^ n.log2 ∧ clog n = n.log2 + 1)) := by
  have a := Nat.log2_self_le (n := n) (by omega)
  have b := Nat.lt_log2_self (n := n)
  rw [Nat.pow_succ] at b
  refine ⟨a, by omega, ?_⟩
  by_cases c : n = 2 ^ n.log2
  · refine .inl ⟨c, ?_⟩
    unfold clog
    by_cases e : n ≤ 1
    · obtain rfl : n = 1 := by omega
      rfl
    · rw [if_neg e]
      have hd : 1 ≤ n.log2 := by
        rw [log2_step (n := n) (by omega)]; omega
      obtain ⟨k, hk⟩ : ∃ k, n.log2 = k + 1 := ⟨n.log2 - 1, by omega⟩
      rw [hk] at c ⊢
      have hp := Nat.two_pow_pos k
      rw [Nat.pow_succ] at c
      have : (n - 1).log2 = k := by
        rw [Nat.log2_eq_iff (by omega), Nat.pow_succ]
        omega
      rw [this]
  · refine .inr ⟨c, ?_⟩
    unfold clog
    have hp := Nat.two_pow_pos n.log2
    rw [if_neg (by omega)]
    have : (n - 1).log2 = n.log2 := by
      rw [Nat.log2_eq_iff (by omega), Nat.pow_succ]
      omega
    rw [this]

end Go.Proofs.Ytogbkhlbmchjlaa.Frac
